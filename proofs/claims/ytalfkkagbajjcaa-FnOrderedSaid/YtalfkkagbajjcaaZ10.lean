/- Horner's rule on values: the error of two and three steps, as a polynomial of the number's norm. Conditions: nothing is too great. -/
import Derived.Test.YtalfkkagbajjcaaZ9
import Derived.Test.YtalfkkagbajjcaaZ5
namespace Go.Proofs.Ytalfkkagbajjcaa
set_option linter.unusedSimpArgs false
set_option linter.unusedVariables false
open Go

/-- The constants of relative errors, growing a little step by step. -/
def Ua : Rat := 1 / 16777216 + 1 / 70368744177664
def Ub : Rat := 1 / 16777216 + 1 / 35184372088832
def Uc : Rat := 1 / 16777216 + 1 / 17592186044416
theorem Ua_ok : u1 * (1 + u1) ≤ Ua ∧ 0 * (1 + 3 * u1) ≤ Ua ∧ 0 ≤ Ua ∧ Ua ≤ 1 / 1048576 := by decide +kernel
theorem Ub_ok : u1 * (1 + u1) ≤ Ub ∧ Ua * (1 + 3 * u1) ≤ Ub ∧ 0 ≤ Ub ∧ Ub ≤ 1 / 1048576 := by decide +kernel
theorem Uc_ok : u1 * (1 + u1) ≤ Uc ∧ Ub * (1 + 3 * u1) ≤ Uc ∧ 0 ≤ Uc ∧ Uc ≤ 1 / 1048576 := by decide +kernel

theorem step_bound {E P t m m' r u e Uk Uk' : Rat} (hE : E ≤ Uk * P + t) (hE0 : 0 ≤ E) (hP : 0 ≤ P) (ht : 0 ≤ t) (hm : 0 ≤ m) (hm' : 0 ≤ m') (hr : 0 ≤ r) (hu : 0 ≤ u) (hu4 : u ≤ 1 / 4) (he : 0 ≤ e)
    (hk1 : u * (1 + u) ≤ Uk') (hk2 : Uk * (1 + 3 * u) ≤ Uk') (hk : 0 ≤ Uk) :
    E * r + u * ((m + E) * r) + e + (u * (m' + E * r + u * ((m + E) * r) + e) + e) ≤ Uk' * (P * r + m * r + m') + (2 * (t * r) + 3 * e) := by
  have hEr : E * r ≤ (Uk * P + t) * r := Rat.mul_le_mul_of_nonneg_right hE hr
  have hEr0 : 0 ≤ E * r := Rat.mul_nonneg hE0 hr
  have hmr : 0 ≤ m * r := Rat.mul_nonneg hm hr
  have hPr : 0 ≤ P * r := Rat.mul_nonneg hP hr
  have htr : 0 ≤ t * r := Rat.mul_nonneg ht hr
  generalize hx : E * r = x at *
  generalize hy : m * r = y at *
  generalize hz : P * r = z at *
  generalize hw : t * r = w at *
  have e1' : (m + E) * r = y + x := by rw [← hx, ← hy]; grind
  have e2' : (Uk * P + t) * r = Uk * z + w := by rw [← hz, ← hw]; grind
  rw [e2'] at hEr
  rw [e1']
  clear e1' e2' hx hy hz hw hE
  -- x (1 + 2u + u^2) <= x (1 + 3u)
  have huu : u * u ≤ u * 1 := Rat.mul_le_mul_of_nonneg_left (by grind) hu
  have k1 : u * u * x ≤ u * 1 * x := Rat.mul_le_mul_of_nonneg_right huu hEr0
  have k2 : (1 + 3 * u) * x ≤ (1 + 3 * u) * (Uk * z + w) := Rat.mul_le_mul_of_nonneg_left hEr (by grind)
  have k3 : Uk * (1 + 3 * u) * z ≤ Uk' * z := Rat.mul_le_mul_of_nonneg_right hk2 hPr
  have k4 : u * (1 + u) * y ≤ Uk' * y := Rat.mul_le_mul_of_nonneg_right hk1 hmr
  have k5 : u * (1 + u) * m' ≤ Uk' * m' := Rat.mul_le_mul_of_nonneg_right hk1 hm'
  have k6 : 0 ≤ u * u * m' := Rat.mul_nonneg (Rat.mul_nonneg hu hu) hm'
  have k7 : u * w ≤ 1 / 4 * w := Rat.mul_le_mul_of_nonneg_right hu4 htr
  have k8 : u * e ≤ 1 / 4 * e := Rat.mul_le_mul_of_nonneg_right hu4 he
  grind

/-- A value of Horner's rule: computed 'v' for the exact 'V'. -/
structure Hs (v : C2) (V : Q2) (P m t Uk : Rat) : Prop where
  f : fC v
  err : N (cv v - V) ≤ Uk * P + t
  le : N V ≤ m
  P0 : 0 ≤ P
  t0 : 0 ≤ t
theorem Hs.m0 {v : C2} {V : Q2} {P m t Uk : Rat} (h : Hs v V P m t Uk) : 0 ≤ m := by have := N_nonneg V; have := h.le; grind

theorem hs_step {v z k : C2} {V : Q2} {P m t Uk Uk' r b : Rat} (h : Hs v V P m t Uk) (hz : fC z) (hk : fC k) (hr : N (cv z) ≤ r) (hb : N (cv k) ≤ b)
    (hU : u1 * (1 + u1) ≤ Uk' ∧ Uk * (1 + 3 * u1) ≤ Uk' ∧ 0 ≤ Uk' ∧ Uk' ≤ 1 / 1048576) (hUk : 0 ≤ Uk ∧ Uk ≤ 1 / 1048576) (hs1 : m + P * (1 / 1048576) + t < p2 200) (hs2 : r < p2 200) (hs3 : (m + P * (1 / 1048576) + t) * r + b < p2 124) :
    fit2 (timesF v z) ∧ Hs (addC (mulC v z) k) (V * cv z + cv k) (P * r + m * r + (m * r + b)) (m * r + b) (2 * (t * r) + 3 * e1) Uk' := by
  have hm := h.m0
  have hP := h.P0
  have ht := h.t0
  have hr0 : 0 ≤ r := by have := N_nonneg (cv z); grind
  have hb0 : 0 ≤ b := by have := N_nonneg (cv k); grind
  have hUP : Uk * P ≤ 1 / 1048576 * P := Rat.mul_le_mul_of_nonneg_right hUk.2 hP
  have hUP0 : 0 ≤ Uk * P := Rat.mul_nonneg hUk.1 hP
  have hm' : N (V * cv z + cv k) ≤ m * r + b := by
    have a1 := N_add (V * cv z) (cv k)
    have a2 := N_mul V (cv z)
    have a3 := mul_le h.le hr (N_nonneg _) hm
    grind
  have hb1 : p2 124 + p2 124 = p2 125 := p2_two 124
  have hb2 := p2_pos 124
  have s1 : (m + (Uk * P + t)) * r ≤ (m + P * (1 / 1048576) + t) * r := Rat.mul_le_mul_of_nonneg_right (by grind) hr0
  have s2 : (m + (Uk * P + t)) * r = m * r + (Uk * P + t) * r := by grind
  have s3 : 0 ≤ (Uk * P + t) * r := Rat.mul_nonneg (by grind) hr0
  have s4 : 0 ≤ m * r := Rat.mul_nonneg hm hr0
  obtain ⟨a1, a2, a3⟩ := horner_step h.f hz hk h.err h.le hr (by grind) hs2 (by grind) hm' (by grind)
  have hu := u1_pos
  have he := e1_pos
  have hu4 : u1 ≤ 1 / 4 := by decide +kernel
  have hst := step_bound (Rat.le_refl (a := Uk * P + t)) (by grind) hP ht hm (show 0 ≤ m * r + b by grind) hr0 (Rat.le_of_lt hu) hu4 (Rat.le_of_lt he) hU.1 hU.2.1 hUk.1
  refine ⟨a1, a2, Rat.le_trans a3 hst, hm', ?_, ?_⟩
  · have := Rat.mul_nonneg hP hr0
    grind
  · have := Rat.mul_nonneg ht hr0
    grind
theorem hs_zero {v : C2} {V : Q2} {m : Rat} (hf : fC v) (hv : cv v = V) (hm : N V ≤ m) : Hs v V 0 m 0 0 := by
  refine ⟨hf, ?_, hm, Rat.le_refl, Rat.le_refl⟩
  rw [hv]
  have : V - V = ⟨0, 0⟩ := q2e (by simp; grind) (by simp; grind)
  rw [this]; decide +kernel
end Go.Proofs.Ytalfkkagbajjcaa

/- Polynomials of two, three and four terms whose last is 1: their slopes; the shape of a Newton step. Conditions: as told. -/
namespace Go.Proofs.Ytalfkkagbajjcaa
set_option linter.unusedSimpArgs false
set_option linter.unusedVariables false
open Go

abbrev kf (k : Nat) : Nat := nrm .f32 (floatOfInt .f32 ((k : Nat) : Int))
theorem kf_val {k m : Nat} {e : Int} (h : FloatKind.f32.decode (kf k) = .number false m e) (hq : (m : Rat) * p2 e = (k : Rat)) : fN .f32 (kf k) = true ∧ vN .f32 (kf k) = (k : Rat) := by
  unfold fN vN
  rw [h]
  exact ⟨rfl, hq⟩
theorem kf1 : fN .f32 (kf 1) = true ∧ vN .f32 (kf 1) = 1 := kf_val (m := 8388608) (e := -23) (by decide +kernel) (by decide +kernel)
theorem kf2 : fN .f32 (kf 2) = true ∧ vN .f32 (kf 2) = 2 := kf_val (m := 8388608) (e := -22) (by decide +kernel) (by decide +kernel)
theorem kf3 : fN .f32 (kf 3) = true ∧ vN .f32 (kf 3) = 3 := kf_val (m := 12582912) (e := -22) (by decide +kernel) (by decide +kernel)

theorem scale1 {x : C2} (hx : fC x) (hn : N (cv x) < p2 100) : fC (scaleC x (kf 1)) ∧ cv (scaleC x (kf 1)) = cv x := by
  have m1 := p2_mono (show (100 : Int) ≤ 127 by decide)
  have key : ∀ y, fN .f32 y = true → A (vN .f32 y) < p2 100 → fN .f32 (fop .mul .f32 y (kf 1)) = true ∧ vN .f32 (fop .mul .f32 y (kf 1)) = vN .f32 y := by
    intro y hy ha
    have e : vN .f32 y * vN .f32 (kf 1) = vN .f32 y := by rw [kf1.2]; grind
    have hR := fop_mul_res hy kf1.1 (by rw [e]; show _ < p2 127; grind)
    rw [e] at hR
    obtain ⟨m, i, a1, a2, a3⟩ := vN_lt .f32 hy
    exact ⟨hR.1, hR.2.2 m i a1 a2 a3⟩
  have a1 : A (vN .f32 x.1) ≤ N (cv x) := re_le_N (cv x)
  have a2 : A (vN .f32 x.2) ≤ N (cv x) := im_le_N (cv x)
  obtain ⟨b1, b2⟩ := key x.1 hx.1 (by grind)
  obtain ⟨c1, c2⟩ := key x.2 hx.2 (by grind)
  exact ⟨⟨b1, c1⟩, q2e b2 c2⟩
theorem scale2 {x : C2} (hx : fC x) (hn : N (cv x) < p2 100) : fC (scaleC x (kf 2)) ∧ cv (scaleC x (kf 2)) = cv x + cv x := by
  have m1 := p2_mono (show (101 : Int) ≤ 127 by decide)
  have m2 : p2 100 + p2 100 = p2 101 := p2_two 100
  have key : ∀ y, fN .f32 y = true → A (vN .f32 y) < p2 100 → fN .f32 (fop .mul .f32 y (kf 2)) = true ∧ vN .f32 (fop .mul .f32 y (kf 2)) = vN .f32 y + vN .f32 y := by
    intro y hy ha
    have e : vN .f32 y * vN .f32 (kf 2) = vN .f32 y + vN .f32 y := by rw [kf2.2]; grind
    have e2 : A (vN .f32 y + vN .f32 y) = A (vN .f32 y) + A (vN .f32 y) := by
      rw [show vN .f32 y + vN .f32 y = 2 * vN .f32 y by grind, A_mul, show A 2 = 2 from rfl]; grind
    have hR := fop_mul_res hy kf2.1 (by rw [e, e2]; show _ < p2 127; grind)
    rw [e] at hR
    obtain ⟨m, i, a1, a2, a3⟩ := vN_lt .f32 hy
    refine ⟨hR.1, hR.2.2 m (i + 1) ?_ a2 (by omega)⟩
    rw [e2, a1, p2_dbl rfl]; grind
  have a1 : A (vN .f32 x.1) ≤ N (cv x) := re_le_N (cv x)
  have a2 : A (vN .f32 x.2) ≤ N (cv x) := im_le_N (cv x)
  obtain ⟨b1, b2⟩ := key x.1 hx.1 (by grind)
  obtain ⟨c1, c2⟩ := key x.2 hx.2 (by grind)
  exact ⟨⟨b1, c1⟩, q2e b2 c2⟩
theorem scale3 {x : C2} (hx : fC x) (h1 : cv x = one2) : fC (scaleC x (kf 3)) ∧ cv (scaleC x (kf 3)) = three2 := by
  have h3 : vN .f32 x.1 = 1 := congrArg Q2.re h1
  have h4 : vN .f32 x.2 = 0 := congrArg Q2.im h1
  have e1' : vN .f32 x.1 * vN .f32 (kf 3) = 3 := by rw [kf3.2, h3]; decide +kernel
  have e2' : vN .f32 x.2 * vN .f32 (kf 3) = 0 := by rw [kf3.2, h4]; decide +kernel
  have r1 := fop_mul_res hx.1 kf3.1 (by rw [e1']; show A 3 < p2 127; decide +kernel)
  have r2 := fop_mul_res hx.2 kf3.1 (by rw [e2']; show A 0 < p2 127; decide +kernel)
  rw [e1'] at r1
  rw [e2'] at r2
  exact ⟨⟨r1.1, r2.1⟩, q2e (r1.2.2 3 0 (by decide +kernel) (by decide) (by decide)) (r2.2.2 0 0 (by decide +kernel) (by decide) (by decide))⟩

theorem not_zeroC {x : C2} (hx : fC x) (h : (cv x).re ≠ 0) : zeroC x = false := by
  have hf := (fC_iff x).1 hx
  cases hz : zeroC x with
  | false => rfl
  | true => exact absurd ((zeroC_iff hf).1 hz).1 h
theorem fin_not_zero {x : C2} (hx : fC x) {q : Q2} (hq : cv x = q) (h : q.re ≠ 0) : finC x = true ∧ zeroC x = false := ⟨(fC_iff x).1 hx, not_zeroC hx (by rw [hq]; exact h)⟩

theorem poly_of {F : List C2} (hl : 1 < F.length) (hf : F.all finC = true) (hz : zeroC (F.getD (F.length - 1) (0, 0)) = false) : validF F = true ∧ polyF F = (F, true) := by
  have hv : validF F = true := by unfold validF; rw [hf, hz]; simp
  have ht : trimF F = F := by unfold trimF; rw [trimN_stop hl hz]; simp
  exact ⟨hv, by unfold polyF; rw [ht, if_pos hv]⟩
theorem poly_one {x : C2} (hf : finC x = true) : validF [x] = true ∧ polyF [x] = ([x], true) := by
  have hv : validF [x] = true := by unfold validF; simp [hf]
  have ht : trimF [x] = [x] := by unfold trimF; rw [trimN_small (by simp)]; simp
  exact ⟨hv, by unfold polyF; rw [ht, if_pos hv]⟩

theorem slope4 {D C B L : C2} (hD : fC D) (hC : fC C) (hB : fC B) (hL : fC L) (h1 : cv L = one2) (nC : N (cv C) < p2 100) (nB : N (cv B) < p2 100) :
    rootedF [D, C, B, L] = true ∧ validF [D, C, B, L] = true ∧ ∃ C' B' L', slopePolyF [D, C, B, L] = ([C', B', L'], true) ∧ validF [C', B', L'] = true ∧ fC C' ∧ fC B' ∧ fC L' ∧ cv C' = cv C ∧ cv B' = cv B + cv B ∧ cv L' = three2 := by
  obtain ⟨c1, c2⟩ := scale1 hC nC
  obtain ⟨b1, b2⟩ := scale2 hB nB
  obtain ⟨l1, l2⟩ := scale3 hL h1
  obtain ⟨f1, f2⟩ := fin_not_zero hL h1 (by decide)
  obtain ⟨g1, g2⟩ := fin_not_zero l1 l2 (by decide)
  have hv : validF [D, C, B, L] = true := (poly_of (by simp) (by simp [f1, (fC_iff _).1 hD, (fC_iff _).1 hC, (fC_iff _).1 hB]) (by simpa using f2)).1
  refine ⟨by unfold rootedF; rw [hv]; rfl, hv, _, _, _, ?_, ?_, c1, b1, l1, c2, b2, l2⟩
  · unfold slopePolyF
    rw [if_pos hv]
    exact (poly_of (F := [scaleC C (kf 1), scaleC B (kf 2), scaleC L (kf 3)]) (by simp) (by simp [g1, (fC_iff _).1 c1, (fC_iff _).1 b1]) (by simpa using g2)).2
  · exact (poly_of (F := [scaleC C (kf 1), scaleC B (kf 2), scaleC L (kf 3)]) (by simp) (by simp [g1, (fC_iff _).1 c1, (fC_iff _).1 b1]) (by simpa using g2)).1
theorem slope3 {C B L : C2} (hC : fC C) (hB : fC B) (hL : fC L) (h1 : cv L = one2) (nB : N (cv B) < p2 100) :
    rootedF [C, B, L] = true ∧ validF [C, B, L] = true ∧ ∃ B' L', slopePolyF [C, B, L] = ([B', L'], true) ∧ validF [B', L'] = true ∧ fC B' ∧ fC L' ∧ cv B' = cv B ∧ cv L' = two2 := by
  obtain ⟨b1, b2⟩ := scale1 hB nB
  obtain ⟨l1, l2⟩ := scale2 hL (by rw [h1]; decide +kernel)
  rw [h1] at l2
  have l2' : cv (scaleC L (kf 2)) = two2 := l2.trans (q2e (by decide +kernel) (by decide +kernel))
  obtain ⟨f1, f2⟩ := fin_not_zero hL h1 (by decide)
  obtain ⟨g1, g2⟩ := fin_not_zero l1 l2' (by decide)
  have hv : validF [C, B, L] = true := (poly_of (by simp) (by simp [f1, (fC_iff _).1 hC, (fC_iff _).1 hB]) (by simpa using f2)).1
  refine ⟨by unfold rootedF; rw [hv]; rfl, hv, _, _, ?_, ?_, b1, l1, b2, l2'⟩
  · unfold slopePolyF
    rw [if_pos hv]
    exact (poly_of (F := [scaleC B (kf 1), scaleC L (kf 2)]) (by simp) (by simp [g1, (fC_iff _).1 b1]) (by simpa using g2)).2
  · exact (poly_of (F := [scaleC B (kf 1), scaleC L (kf 2)]) (by simp) (by simp [g1, (fC_iff _).1 b1]) (by simpa using g2)).1
theorem slope2 {B L : C2} (hB : fC B) (hL : fC L) (h1 : cv L = one2) :
    rootedF [B, L] = true ∧ validF [B, L] = true ∧ ∃ L', slopePolyF [B, L] = ([L'], true) ∧ validF [L'] = true ∧ fC L' ∧ cv L' = one2 := by
  obtain ⟨l1, l2⟩ := scale1 hL (by rw [h1]; decide +kernel)
  rw [h1] at l2
  obtain ⟨f1, f2⟩ := fin_not_zero hL h1 (by decide)
  obtain ⟨g1, g2⟩ := fin_not_zero l1 l2 (by decide)
  have hv : validF [B, L] = true := (poly_of (by simp) (by simp [f1, (fC_iff _).1 hB]) (by simpa using f2)).1
  refine ⟨by unfold rootedF; rw [hv]; rfl, hv, _, ?_, ?_, l1, l2⟩
  · unfold slopePolyF
    rw [if_pos hv]
    exact (poly_one (x := scaleC L (kf 1)) g1).2
  · exact (poly_one (x := scaleC L (kf 1)) g1).1

/-- The shape of a Newton step. -/
theorem step_shape {F S : List C2} {z : C2} (hr : rootedF F = true) (hv : validF F = true) (hS : slopePolyF F = (S, true)) (hSv : validF S = true) (hz : fC z) (h1 : fC (nestedF F z)) (h2 : fC (nestedF S z)) :
    stepF F z = (if zeroC (nestedF F z) = true then (z, true) else if finC (quoC (nestedF F z) (nestedF S z)) = true then finiteX (subC z (quoC (nestedF F z) (nestedF S z))) else ((0, 0), false)) ∧
    (safeStep F z ↔ safeN F z ∧ safeN S z ∧ quoFit (nestedF F z) (nestedF S z)) := by
  have hz' := (fC_iff z).1 hz
  have h1' := (fC_iff _).1 h1
  have h2' := (fC_iff _).1 h2
  have e1 : polyAtF F z = (nestedF F z, true) := by unfold polyAtF finiteX; rw [if_pos ⟨hv, hz'⟩, if_pos h1']
  have e2 : polyAtF S z = (nestedF S z, true) := by unfold polyAtF finiteX; rw [if_pos ⟨hSv, hz'⟩, if_pos h2']
  refine ⟨?_, ?_⟩
  · unfold stepF
    simp only [hr, hz', hS, e1, e2, Bool.and_self, if_true, Bool.true_and]
  · unfold safeStep
    rw [hS, e1, e2]
end Go.Proofs.Ytalfkkagbajjcaa

/- Values of polynomials of two, three and four terms by Horner's rule, with their errors. Conditions: numbers of norm at most 2 ^ 41, terms of norm at most 32. -/
namespace Go.Proofs.Ytalfkkagbajjcaa
set_option linter.unusedSimpArgs false
set_option linter.unusedVariables false
open Go

theorem Hs.mono {v : C2} {V V' : Q2} {P m t U P' m' t' : Rat} (h : Hs v V P m t U) (hV : V = V') (hP : P = P') (hm : m = m') (ht : t ≤ t') : Hs v V' P' m' t' U := by
  subst hV hP hm
  refine ⟨h.f, ?_, h.le, h.P0, ?_⟩
  · have := h.err; grind
  · have := h.t0; grind

theorem nested2 (B L z : C2) : nestedF [B, L] z = addC (mulC L z) B := rfl
theorem nested3 (C B L z : C2) : nestedF [C, B, L] z = addC (mulC (addC (mulC L z) B) z) C := rfl
theorem nested4 (D C B L z : C2) : nestedF [D, C, B, L] z = addC (mulC (addC (mulC (addC (mulC L z) B) z) C) z) D := rfl

theorem num_e : 3 * e1 ≤ p2 (-140) ∧ e1 ≤ p2 (-148) := by decide +kernel

section
variable {D C B L z : C2} {l : Q2} {r b c d m0 : Rat}
theorem eval2 (hz : fC z) (hr : N (cv z) ≤ r) (hr2 : r ≤ p2 41) (hL : fC L) (hl : cv L = l) (h0 : N l ≤ m0) (h04 : m0 ≤ 4) (hB : fC B) (hb : N (cv B) ≤ b) (hb2 : b ≤ 32) :
    safeN [B, L] z ∧ Hs (nestedF [B, L] z) (l * cv z + cv B) (2 * m0 * r + b) (m0 * r + b) (3 * e1) Ua := by
  have z0 := hs_zero hL hl h0
  have n0 := z0.m0
  have r0 : 0 ≤ r := by have := N_nonneg (cv z); grind
  have q1 : (p2 41 : Rat) = 2199023255552 := by decide +kernel
  have q2 : (2199023255552 * 8 : Rat) < p2 124 := by decide +kernel
  have q3 : (2199023255552 : Rat) < p2 200 := by decide +kernel
  rw [q1] at hr2
  have k1 := mul_le h04 hr2 r0 (by decide +kernel)
  obtain ⟨s1, h1⟩ := hs_step z0 hz hB hr hb Ua_ok (by decide +kernel) (by grind) (by grind) (by grind)
  exact ⟨⟨s1, trivial⟩, h1.mono rfl (by grind) rfl (by grind)⟩
theorem eval3 (hz : fC z) (hr : N (cv z) ≤ r) (hr2 : r ≤ p2 41) (hL : fC L) (hl : cv L = l) (h0 : N l ≤ m0) (h04 : m0 ≤ 4) (hB : fC B) (hb : N (cv B) ≤ b) (hb2 : b ≤ 32) (hC : fC C) (hc : N (cv C) ≤ c) (hc2 : c ≤ 32) :
    safeN [C, B, L] z ∧ Hs (nestedF [C, B, L] z) ((l * cv z + cv B) * cv z + cv C) (4 * m0 * (r * r) + 3 * (b * r) + c) (m0 * (r * r) + b * r + c) (6 * (e1 * r) + 3 * e1) Ub := by
  obtain ⟨⟨s1, _⟩, h1⟩ := eval2 hz hr hr2 hL hl h0 h04 hB hb hb2
  have r0 : 0 ≤ r := by have := N_nonneg (cv z); grind
  have n0 : 0 ≤ m0 := by have := N_nonneg l; grind
  have b0 : 0 ≤ b := by have := N_nonneg (cv B); grind
  have q1 : (p2 41 : Rat) = 2199023255552 := by decide +kernel
  have q2 : ((8796093022208 + 32 + 17592186044416 + 32 + 1) * 2199023255552 + 32 : Rat) < p2 124 := by decide +kernel
  have q3 : (8796093022208 + 32 + 17592186044416 + 32 + 1 : Rat) < p2 200 := by decide +kernel
  have q4 : 3 * e1 ≤ 1 := by decide +kernel
  rw [q1] at hr2
  have k1 := mul_le h04 hr2 r0 (by decide +kernel)
  have k2 : m0 * r + b + (2 * m0 * r + b) * (1 / 1048576) + 3 * e1 ≤ 8796093022208 + 32 + 17592186044416 + 32 + 1 := by grind
  have k3 := mul_le k2 hr2 r0 (by decide +kernel)
  obtain ⟨s2, h2⟩ := hs_step h1 hz hC hr hc Ub_ok ⟨Ua_ok.2.2.1, Ua_ok.2.2.2⟩ (by grind) (by grind) (by grind)
  exact ⟨⟨s1, s2, trivial⟩, h2.mono rfl (by grind) (by grind) (by grind)⟩
theorem eval4 (hz : fC z) (hr : N (cv z) ≤ r) (hr2 : r ≤ p2 41) (hL : fC L) (hl : cv L = l) (h0 : N l ≤ m0) (h04 : m0 ≤ 1) (hB : fC B) (hb : N (cv B) ≤ b) (hb2 : b ≤ 32) (hC : fC C) (hc : N (cv C) ≤ c) (hc2 : c ≤ 32)
    (hD : fC D) (hd : N (cv D) ≤ d) (hd2 : d ≤ 32) :
    safeN [D, C, B, L] z ∧ Hs (nestedF [D, C, B, L] z) (((l * cv z + cv B) * cv z + cv C) * cv z + cv D) (6 * m0 * (r * r * r) + 5 * (b * (r * r)) + 3 * (c * r) + d) (m0 * (r * r * r) + b * (r * r) + c * r + d) (p2 (-60)) Uc := by
  obtain ⟨⟨s1, s2, _⟩, h2⟩ := eval3 hz hr hr2 hL hl h0 (by grind) hB hb hb2 hC hc hc2
  have r0 : 0 ≤ r := by have := N_nonneg (cv z); grind
  have n0 : 0 ≤ m0 := by have := N_nonneg l; grind
  have b0 : 0 ≤ b := by have := N_nonneg (cv B); grind
  have q1 : (p2 41 : Rat) = 2199023255552 := by decide +kernel
  have q2 : ((2199023255552 * 2199023255552 * (3 / 2) + 32 * 2199023255552 * 4 + 64 + 1) * 2199023255552 + 32 : Rat) < p2 124 := by decide +kernel
  have q3 : (2199023255552 * 2199023255552 * (3 / 2) + 32 * 2199023255552 * 4 + 64 + 1 : Rat) < p2 200 := by decide +kernel
  have q4 : 6 * (e1 * 2199023255552) + 3 * e1 ≤ 1 := by decide +kernel
  have q5 : 12 * (e1 * (2199023255552 * 2199023255552)) + 6 * (e1 * 2199023255552) + 3 * e1 ≤ p2 (-60) := by decide +kernel
  have e0 := e1_pos
  rw [q1] at hr2
  have k1 := mul_le hr2 hr2 r0 (by decide +kernel)
  have k2 := mul_le h04 k1 (Rat.mul_nonneg r0 r0) (by decide)
  have k3 := mul_le hb2 hr2 r0 (by decide +kernel)
  have k4 := Rat.mul_le_mul_of_nonneg_left hr2 (Rat.le_of_lt e0)
  have k5 := Rat.mul_le_mul_of_nonneg_left k1 (Rat.le_of_lt e0)
  have k6 : m0 * (r * r) + b * r + c + (4 * m0 * (r * r) + 3 * (b * r) + c) * (1 / 1048576) + (6 * (e1 * r) + 3 * e1) ≤ 2199023255552 * 2199023255552 * (3 / 2) + 32 * 2199023255552 * 4 + 64 + 1 := by
    clear hr hL hl h0 hB hb hC hc hD hd h2 s1 s2 q5 k5 q2 q3
    generalize e1 = e at *
    grind
  have k7 := mul_le k6 hr2 r0 (by decide +kernel)
  obtain ⟨s3, h3⟩ := hs_step h2 hz hD hr hd Uc_ok ⟨Ub_ok.2.2.1, Ub_ok.2.2.2⟩ (by grind) (by grind) (by grind)
  refine ⟨⟨s1, s2, s3, trivial⟩, h3.mono rfl (by grind) (by grind) ?_⟩
  clear hr hL hl h0 hB hb hC hc hD hd h2 s1 s2 h3 q2 q3 q4 k6 k7 k1 k2 k3 s3
  generalize e1 = e at *
  generalize p2 (-60) = x at *
  grind
end
end Go.Proofs.Ytalfkkagbajjcaa

/- A Newton step on values: where the slope is 0 it stands or ends; elsewhere its result is near the exact one of the computed value and slope. Conditions: nothing is too great, the slope is 0 or not too small. -/
namespace Go.Proofs.Ytalfkkagbajjcaa
set_option linter.unusedSimpArgs false
set_option linter.unusedVariables false
open Go

theorem N_zero {z : Q2} (h : N z = 0) : z.re = 0 ∧ z.im = 0 := by
  have n1 := A_nonneg z.re; have n2 := A_nonneg z.im
  unfold N at h
  exact ⟨A_eq_zero (by grind), A_eq_zero (by grind)⟩
theorem sqN_nonneg (z : Q2) : 0 ≤ sqN z := by have := sq_nonneg z.re; have := sq_nonneg z.im; unfold sqN; grind
theorem sqN_pos {z : Q2} (h : 0 < N z) : 0 < sqN z := by
  have h1 := sqN_ge z
  have h2 := Rat.mul_pos h h
  grind
/-- There is a quotient. -/
theorem quo_ex (v : Q2) {s : Q2} (h : 0 < N s) : ∃ q : Q2, q * s = v := by
  have h1 := sqN_pos h
  have h2 : sqN s * (sqN s)⁻¹ = 1 := Rat.mul_inv_cancel _ (by intro h0; rw [h0] at h1; exact absurd h1 (by decide))
  unfold sqN at h2
  generalize (s.re * s.re + s.im * s.im)⁻¹ = i at h2
  refine ⟨⟨(v.re * s.re + v.im * s.im) * i, (v.im * s.re - v.re * s.im) * i⟩, q2e ?_ ?_⟩
  · simp only [re_mul]
    have : (v.re * s.re + v.im * s.im) * i * s.re - (v.im * s.re - v.re * s.im) * i * s.im = v.re * ((s.re * s.re + s.im * s.im) * i) := by grind
    rw [this, h2]; grind
  · simp only [im_mul]
    have : (v.re * s.re + v.im * s.im) * i * s.im + (v.im * s.re - v.re * s.im) * i * s.re = v.im * ((s.re * s.re + s.im * s.im) * i) := by grind
    rw [this, h2]; grind
/-- The norm of a quotient, by the divisor's square. -/
theorem quo_sq {q s v : Q2} (h : q * s = v) : N q * sqN s ≤ N v * N s := by
  have e1 : q.re * sqN s = v.re * s.re + v.im * s.im := by rw [← h]; simp only [re_mul, im_mul, sqN]; grind
  have e2 : q.im * sqN s = v.im * s.re - v.re * s.im := by rw [← h]; simp only [re_mul, im_mul, sqN]; grind
  have h0 := sqN_nonneg s
  have a1 := A_mul q.re (sqN s)
  have a2 := A_mul q.im (sqN s)
  rw [A_of_nonneg h0] at a1 a2
  have b1 := A_add (v.re * s.re) (v.im * s.im)
  have b2 := A_sub (v.im * s.re) (v.re * s.im)
  simp only [A_mul] at b1 b2
  rw [e1] at a1
  rw [e2] at a2
  unfold N
  grind
theorem quo_le {q s v : Q2} (h : q * s = v) : N q * N s ≤ 2 * N v := by
  rcases Rat.le_total (a := N s) (b := 0) with h0 | h0
  · have n1 := N_nonneg s
    have : N s = 0 := Rat.le_antisymm h0 n1
    have n2 := N_nonneg v
    rw [this]; grind
  · by_cases hz : N s = 0
    · have n2 := N_nonneg v
      rw [hz]; grind
    · have hp : 0 < N s := by have := N_nonneg s; grind
      refine lcancel_le hp ?_
      have k1 := quo_sq h
      have k2 := sqN_ge s
      have k3 := Rat.mul_le_mul_of_nonneg_left k2 (N_nonneg q)
      grind

theorem lt_of_p2 {x : Rat} {a b : Int} (h : x ≤ p2 a) (hab : a < b) : x < p2 b := by
  have h1 := p2_mono (show a + 1 ≤ b by omega)
  have h2 : p2 a + p2 a = p2 (a + 1) := p2_two a
  have h3 := p2_pos a
  grind

section
variable {F S : List C2} {z : C2}
/-- Where the slope is 0. -/
theorem step_zero (hr : rootedF F = true) (hv : validF F = true) (hS : slopePolyF F = (S, true)) (hSv : validF S = true) (hz : fC z) (h1 : fC (nestedF F z)) (h2 : fC (nestedF S z))
    (hs1 : safeN F z) (hs2 : safeN S z) (b1 : N (cv (nestedF F z)) < p2 126) (h0 : N (cv (nestedF S z)) = 0) :
    safeStep F z ∧ ((stepF F z).2 = true → (stepF F z).1 = z) := by
  obtain ⟨e, hsafe⟩ := step_shape hr hv hS hSv hz h1 h2
  obtain ⟨q1, q2⟩ := quoC_zero h1 h2 h0 b1
  rw [fC_iff] at q2
  refine ⟨hsafe.2 ⟨hs1, hs2, q1⟩, ?_⟩
  rw [e]
  by_cases hz0 : zeroC (nestedF F z) = true
  · rw [if_pos hz0]; intro _; rfl
  · rw [if_neg hz0, if_neg q2]; intro h; cases h
/-- Where the slope is not too small. -/
theorem step_res (hr : rootedF F = true) (hv : validF F = true) (hS : slopePolyF F = (S, true)) (hSv : validF S = true) (hz : fC z) (h1 : fC (nestedF F z)) (h2 : fC (nestedF S z))
    (hs1 : safeN F z) (hs2 : safeN S z) (b1 : N (cv (nestedF F z)) < p2 126) (b2 : N (cv (nestedF S z)) < p2 100) (b3 : p2 (-40) ≤ N (cv (nestedF S z)))
    (bz : N (cv z) ≤ p2 41) {q : Q2} (hq : q * cv (nestedF S z) = cv (nestedF F z)) (bq : N q ≤ p2 42) :
    safeStep F z ∧ ∃ z', stepF F z = (z', true) ∧ fC z' ∧ N (cv z' - (cv z - q)) ≤ u1 * (2 * N q + N (cv z - q)) + 3 * e1 := by
  obtain ⟨e, hsafe⟩ := step_shape hr hv hS hSv hz h1 h2
  obtain ⟨q1, q2⟩ := quoC_near h1 h2 hq b1 b2 b3 (lt_of_p2 bq (by decide))
  refine ⟨hsafe.2 ⟨hs1, hs2, q1⟩, ?_⟩
  rw [e]
  have hu := u1_pos
  have he := e1_pos
  have hu4 : u1 ≤ 1 / 4 := by decide +kernel
  have he4 : e1 ≤ 1 := by decide +kernel
  obtain ⟨u, hu'⟩ : ∃ u, u1 = u := ⟨_, rfl⟩
  obtain ⟨f, he'⟩ : ∃ f, e1 = f := ⟨_, rfl⟩
  rw [hu'] at hu hu4 ⊢
  rw [he'] at he he4 ⊢
  have q0 := N_nonneg q
  have d0 := N_nonneg (cv z - q)
  have uq0 := Rat.mul_nonneg (Rat.le_of_lt hu) q0
  have ud0 := Rat.mul_nonneg (Rat.le_of_lt hu) d0
  by_cases hz0 : zeroC (nestedF F z) = true
  · rw [if_pos hz0]
    refine ⟨z, rfl, hz, ?_⟩
    have hv0 := (zeroC_iff ((fC_iff _).1 h1)).1 hz0
    have hN0 : N (cv (nestedF F z)) = 0 := by
      show A (vN .f32 _) + A (vN .f32 _) = 0
      rw [hv0.1, hv0.2, A_zero]; decide +kernel
    have k1 := quo_le hq
    rw [hN0] at k1
    have k2 : N q * N (cv (nestedF S z)) ≤ 0 * N (cv (nestedF S z)) := by grind
    have k3 : N q ≤ 0 := lcancel_le (by have := p2_pos (-40); grind) k2
    have k4 := N_zero (Rat.le_antisymm k3 q0)
    have k5 : cv z - (cv z - q) = q := q2e (by simp; grind) (by simp; grind)
    rw [k5]
    have : 0 ≤ u * (2 * N q + N (cv z - q)) := Rat.mul_nonneg (Rat.le_of_lt hu) (by grind)
    grind
  · rw [if_neg hz0, if_pos ((fC_iff _).1 q2.1)]
    have g := q2.2
    rw [hu', he'] at g
    have t1 := N_tri (cv (quoC (nestedF F z) (nestedF S z))) q
    have s1 : N (cv z - cv (quoC (nestedF F z) (nestedF S z))) ≤ N (cv z - q) + (u * N q + f) := by
      have : cv z - cv (quoC (nestedF F z) (nestedF S z)) = (cv z - q) - (cv (quoC (nestedF F z) (nestedF S z)) - q) := q2e (by simp; grind) (by simp; grind)
      rw [this]
      have := N_sub (cv z - q) (cv (quoC (nestedF F z) (nestedF S z)) - q)
      grind
    have s2 : N (cv z - q) ≤ p2 41 + p2 42 := by have := N_sub (cv z) q; grind
    have s3 : N (cv z - cv (quoC (nestedF F z) (nestedF S z))) < p2 127 := by
      have c1 : p2 41 + p2 42 + (1 / 4 * p2 42 + 1) < p2 127 := by decide +kernel
      have c2 : u * N q ≤ 1 / 4 * p2 42 := mul_le hu4 bq q0 (by decide +kernel)
      grind
    have hn := subC_near hz q2.1 s3
    refine ⟨_, by unfold finiteX; rw [if_pos ((fC_iff _).1 hn.1)], hn.1, ?_⟩
    have g2 := hn.2
    rw [hu', he'] at g2
    have eq : cv (subC z (quoC (nestedF F z) (nestedF S z))) - (cv z - q) = (cv (subC z (quoC (nestedF F z) (nestedF S z))) - (cv z - cv (quoC (nestedF F z) (nestedF S z)))) - (cv (quoC (nestedF F z) (nestedF S z)) - q) := q2e (by simp; grind) (by simp; grind)
    rw [eq]
    have g3 := N_sub (cv (subC z (quoC (nestedF F z) (nestedF S z))) - (cv z - cv (quoC (nestedF F z) (nestedF S z)))) (cv (quoC (nestedF F z) (nestedF S z)) - q)
    have g4 := Rat.mul_le_mul_of_nonneg_left s1 (Rat.le_of_lt hu)
    have g5 := Rat.mul_le_mul_of_nonneg_right hu4 uq0
    have g6 := Rat.mul_le_mul_of_nonneg_right hu4 (Rat.le_of_lt he)
    clear e eq s3 s2 s1 hn q2 q1 hsafe b1 b2 b3 bq bz t1 hu4 he4 hs1 hs2
    generalize N (cv (subC z (quoC (nestedF F z) (nestedF S z))) - (cv z - cv (quoC (nestedF F z) (nestedF S z))) - (cv (quoC (nestedF F z) (nestedF S z)) - q)) = a1 at *
    generalize N (cv (subC z (quoC (nestedF F z) (nestedF S z))) - (cv z - cv (quoC (nestedF F z) (nestedF S z)))) = a2 at *
    generalize N (cv (quoC (nestedF F z) (nestedF S z)) - q) = a3 at *
    generalize N (cv z - cv (quoC (nestedF F z) (nestedF S z))) = a4 at *
    generalize N (cv z - q) = a5 at *
    generalize N q = a6 at *
    grind
end
end Go.Proofs.Ytalfkkagbajjcaa

/- The last sum of a slope is 0 or not too small; cubics whose second term has no part 0: a Newton step keeps the norm at most 2 ^ 41. Conditions: terms as small as those of the drawn roots. -/
namespace Go.Proofs.Ytalfkkagbajjcaa
set_option linter.unusedSimpArgs false
set_option linter.unusedVariables false
open Go

/-- A float32 that is not small, as a multiple of 2 ^ -30. -/
theorem multiple {x : Nat} (h : fN .f32 x = true) (hx : p2 (-7) ≤ A (vN .f32 x)) : ∃ X : Int, vN .f32 x = (X : Rat) * p2 (-30) := by
  obtain ⟨s, m, e, hd, h1, h2⟩ := digits .f32 x h
  have hv : vN .f32 x = sg s ((m : Rat) * p2 e) := by unfold vN; rw [hd]; rfl
  have hA : A (vN .f32 x) = (m : Rat) * p2 e := by unfold vN; rw [hd, A_val]
  rw [hA] at hx
  have he : -30 ≤ e := by
    have h24 : ((m : Nat) : Rat) < ((2 ^ 24 : Nat) : Rat) := by exact_mod_cast (show m < 2 ^ 24 from h1)
    have h3 := Rat.mul_lt_mul_of_pos_right h24 (p2_pos e)
    rw [← p2_nat, ← p2_add] at h3
    have h4 : p2 (-7) < p2 (((24 : Nat) : Int) + e) := by
      generalize p2 (((24 : Nat) : Int) + e) = a at *
      generalize p2 (-7) = b at *
      grind
    have := p2_lt h4
    omega
  have e1' : p2 e = ((2 ^ (e + 30).toNat : Nat) : Rat) * p2 (-30) := by rw [← p2_toNat (by omega), ← p2_add]; congr 1; omega
  have e2' : (m : Rat) * p2 e = ((m * 2 ^ (e + 30).toNat : Nat) : Rat) * p2 (-30) := by rw [e1', Rat.natCast_mul]; grind
  cases s
  · exact ⟨((m * 2 ^ (e + 30).toNat : Nat) : Int), by rw [hv, e2', Rat.intCast_natCast]; rfl⟩
  · refine ⟨-((m * 2 ^ (e + 30).toNat : Nat) : Int), ?_⟩
    rw [hv, e2', Rat.intCast_neg, Rat.intCast_natCast]
    show -_ = _
    grind
theorem grain {x c : Nat} (hx : fN .f32 x = true) (hc : fN .f32 c = true) (h : p2 (-6) ≤ A (vN .f32 c)) : vN .f32 x + vN .f32 c = 0 ∨ p2 (-30) ≤ A (vN .f32 x + vN .f32 c) := by
  have h67 : p2 (-6) = p2 (-7) + p2 (-7) := p2_dbl (by omega)
  have h7 := p2_pos (-7)
  have h730 := p2_mono (show (-30 : Int) ≤ -7 by decide)
  rcases Rat.le_total (a := p2 (-7)) (b := A (vN .f32 x)) with hl | hl
  · obtain ⟨X, hX⟩ := multiple hx hl
    obtain ⟨C, hC⟩ := multiple hc (by grind)
    have hs : vN .f32 x + vN .f32 c = ((X + C : Int) : Rat) * p2 (-30) := by rw [hX, hC, Rat.intCast_add]; grind
    by_cases h0 : X + C = 0
    · left; rw [hs, h0, show ((0 : Int) : Rat) = 0 from rfl]; grind
    · right
      rw [hs, A_mul, A_of_nonneg (Rat.le_of_lt (p2_pos (-30)))]
      have h1 : 1 ≤ A ((X + C : Int) : Rat) := by
        rcases Int.lt_or_le (X + C) 0 with hn | hn
        · have : ((X + C : Int) : Rat) ≤ ((-1 : Int) : Rat) := by exact_mod_cast (show X + C ≤ -1 by omega)
          rw [show ((-1 : Int) : Rat) = -1 from rfl] at this
          have := (le_A ((X + C : Int) : Rat)).2
          grind
        · have : ((1 : Int) : Rat) ≤ ((X + C : Int) : Rat) := by exact_mod_cast (show 1 ≤ X + C by omega)
          rw [show ((1 : Int) : Rat) = 1 from rfl] at this
          have := (le_A ((X + C : Int) : Rat)).1
          grind
      have := Rat.mul_le_mul_of_nonneg_right h1 (Rat.le_of_lt (p2_pos (-30)))
      grind
  · right
    have := A_sub (vN .f32 x + vN .f32 c) (vN .f32 x)
    rw [show vN .f32 x + vN .f32 c - vN .f32 x = vN .f32 c by grind] at this
    grind
theorem add_grain {x c : Nat} (hx : fN .f32 x = true) (hc : fN .f32 c = true) (h : p2 (-6) ≤ A (vN .f32 c)) (ht : A (vN .f32 x + vN .f32 c) < p2 127) :
    vN .f32 (fop .add .f32 x c) = 0 ∨ 15 / 16 * p2 (-30) ≤ A (vN .f32 (fop .add .f32 x c)) := by
  have hR := fop_add_res hx hc ht
  rcases grain hx hc h with h0 | h0
  · left
    have := hR.2.2 0 0 (by rw [h0, A_zero, show ((0 : Nat) : Rat) = 0 from rfl]; grind) (by decide) (by decide)
    rw [this, h0]
  · right
    have h1 : A (vN .f32 (fop .add .f32 x c) - (vN .f32 x + vN .f32 c)) ≤ p2 (-24) * A (vN .f32 x + vN .f32 c) + p2 (-150) := hR.2.1
    generalize vN .f32 x + vN .f32 c = q at *
    generalize vN .f32 (fop .add .f32 x c) = r at *
    have h2 := A_sub r (r - q)
    rw [show r - (r - q) = q by grind] at h2
    have h3 : p2 (-24) * A q ≤ 1 / 32 * A q := Rat.mul_le_mul_of_nonneg_right (by decide +kernel) (A_nonneg q)
    have h4 : p2 (-150) ≤ 1 / 32 * p2 (-30) := by decide +kernel
    generalize p2 (-150) = a at *
    generalize p2 (-30) = b at *
    generalize p2 (-24) = c at *
    generalize A (r - q) = d at *
    generalize A q = f at *
    generalize A r = g at *
    grind
theorem addC_grain {x c : C2} (hx : fC x) (hc : fC c) (h1 : p2 (-6) ≤ A (cv c).re) (h2 : p2 (-6) ≤ A (cv c).im) (ht : N (cv x + cv c) < p2 127) :
    N (cv (addC x c)) = 0 ∨ 15 / 16 * p2 (-30) ≤ N (cv (addC x c)) := by
  have a1 : A (vN .f32 x.1 + vN .f32 c.1) ≤ N (cv x + cv c) := re_le_N (cv x + cv c)
  have a2 : A (vN .f32 x.2 + vN .f32 c.2) ≤ N (cv x + cv c) := im_le_N (cv x + cv c)
  have g1 := add_grain hx.1 hc.1 h1 (by grind)
  have g2 := add_grain hx.2 hc.2 h2 (by grind)
  have n1 := A_nonneg (vN .f32 (fop .add .f32 x.1 c.1))
  have n2 := A_nonneg (vN .f32 (fop .add .f32 x.2 c.2))
  have e : N (cv (addC x c)) = A (vN .f32 (fop .add .f32 x.1 c.1)) + A (vN .f32 (fop .add .f32 x.2 c.2)) := rfl
  rw [e]
  rcases g1 with g1 | g1
  · rcases g2 with g2 | g2
    · left; rw [g1, g2, A_zero]; decide +kernel
    · right; grind
  · right; grind
/-- One part is enough, where the other one has it. -/
theorem addC_grain_re {x c : C2} (hx : fC x) (hc : fC c) (h1 : p2 (-6) ≤ A (cv c).re) (ht : N (cv x + cv c) < p2 127) :
    vN .f32 (addC x c).1 = 0 ∨ 15 / 16 * p2 (-30) ≤ N (cv (addC x c)) := by
  have a1 : A (vN .f32 x.1 + vN .f32 c.1) ≤ N (cv x + cv c) := re_le_N (cv x + cv c)
  have g1 := add_grain hx.1 hc.1 h1 (by grind)
  have n2 := A_nonneg (vN .f32 (fop .add .f32 x.2 c.2))
  have e : N (cv (addC x c)) = A (vN .f32 (fop .add .f32 x.1 c.1)) + A (vN .f32 (fop .add .f32 x.2 c.2)) := rfl
  rw [e]
  rcases g1 with g1 | g1
  · exact .inl g1
  · right; grind
end Go.Proofs.Ytalfkkagbajjcaa

/- Cubics whose second term has no part 0: a Newton step is safe and keeps the norm at most 2 ^ 41. Conditions: terms as small as those of the drawn roots. -/
namespace Go.Proofs.Ytalfkkagbajjcaa
set_option linter.unusedSimpArgs false
set_option linter.unusedVariables false
open Go

/-- The square's norm. -/
theorem N_sq_ge (z : Q2) : N z * N z ≤ 2 * N (z * z) := by
  have h1 := sqN_ge z
  have h2 : sqN (z * z) = sqN z * sqN z := by simp only [sqN, re_mul, im_mul]; grind
  have h3 := sqN_le (z * z)
  have h4 := sqN_nonneg z
  have h5 := N_nonneg (z * z)
  have h6 : sqN z ≤ N (z * z) := by
    rcases Rat.le_total (a := sqN z) (b := N (z * z)) with h | h
    · exact h
    · rw [h2] at h3
      by_cases h0 : sqN z = 0
      · grind
      · have hp : 0 < sqN z := by grind
        have k1 := Rat.mul_le_mul_of_nonneg_right h h5
        have k2 := Rat.mul_le_mul_of_nonneg_left h (Rat.le_of_lt hp)
        have k3 : sqN z * sqN z ≤ N (z * z) * sqN z := by grind
        exact lcancel_le hp k3
  grind

def cubV (z B C D : Q2) : Q2 := ((one2 * z + B) * z + C) * z + D
def cubS (z B C : Q2) : Q2 := (three2 * z + (B + B)) * z + C

theorem cubS_ge {z B C : Q2} (nB : N B ≤ 9 / 2) (nC : N C ≤ 12) : 3 / 2 * (N z * N z) - 9 * N z - 12 ≤ N (cubS z B C) := by
  have h1 := N_sq_ge z
  have n0 := N_nonneg z
  have e : cubS z B C - ((B + B) * z + C) = z * z + z * z + z * z := q2e (by simp [cubS, three2]; grind) (by simp [cubS, three2]; grind)
  have h2 := N_sub (cubS z B C) ((B + B) * z + C)
  rw [e] at h2
  have h3 : N (z * z + z * z + z * z) = 3 * N (z * z) := by
    have e2 : ∀ x : Rat, A (x + x + x) = 3 * A x := fun x => by rw [show x + x + x = 3 * x by grind, A_mul]; congr 1
    unfold N
    rw [show (z * z + z * z + z * z).re = (z * z).re + (z * z).re + (z * z).re from rfl, show (z * z + z * z + z * z).im = (z * z).im + (z * z).im + (z * z).im from rfl, e2, e2]
    grind
  have h4 := N_add ((B + B) * z) C
  have h5 := N_mul (B + B) z
  have h6 := N_add B B
  have h7 := Rat.mul_le_mul_of_nonneg_right (show N (B + B) ≤ 9 by grind) n0
  grind
theorem cubV_le {z B C D : Q2} {r b c d : Rat} (hr : N z ≤ r) (nB : N B ≤ b) (nC : N C ≤ c) (nD : N D ≤ d) : N (cubV z B C D) ≤ ((r + b) * r + c) * r + d := by
  have n0 := N_nonneg z
  have e : one2 * z = z := q2e (by simp [one2]; grind) (by simp [one2]; grind)
  unfold cubV
  rw [e]
  have h1 := N_add z B
  have h2 := N_mul (z + B) z
  have h3 := mul_le (show N (z + B) ≤ r + b by grind) hr n0 (by have := N_nonneg B; grind)
  have h4 := N_add ((z + B) * z) C
  have h5 := N_mul ((z + B) * z + C) z
  have h6 := mul_le (show N ((z + B) * z + C) ≤ (r + b) * r + c by grind) hr n0 (by have := N_nonneg ((z + B) * z + C); grind)
  have h7 := N_add (((z + B) * z + C) * z) D
  grind

theorem cubA_pure {z B C D v s q : Q2} (nB : N B ≤ 9 / 2) (nC : N C ≤ 12) (nD : N D ≤ 8)
    (hv : N (v - cubV z B C D) ≤ 1 / 8388608 * (6 * (N z * N z * N z) + 45 / 2 * (N z * N z) + 36 * N z + 8) + 1 / 1000)
    (hs : N (s - cubS z B C) ≤ 1 / 8388608 * (12 * (N z * N z) + 27 * N z + 12) + 1 / 1000)
    (hq : q * s = v) (hs0 : 15 / 16 * (1 / 1073741824) ≤ N s) (hz : N z ≤ 2199023255552) :
    N q ≤ 4398046511104 ∧ N (z - q) + 1 / 8388608 * (2 * N q + N (z - q)) + 1 / 1000 ≤ 2199023255552 := by
  have r0 := N_nonneg z
  have hV := cubV_le (Rat.le_refl (a := N z)) nB nC nD
  have hS := cubS_ge (z := z) nB nC
  have t1 := N_tri v (cubV z B C D)
  have t2 := N_sub s (s - cubS z B C)
  rw [show s - (s - cubS z B C) = cubS z B C from q2e (by simp; grind) (by simp; grind)] at t2
  have k1 := quo_le hq
  have q0 := N_nonneg q
  have d1 := N_sub z q
  generalize hr : N z = r at *
  rcases Rat.le_total (a := r) (b := 8) with h8 | h8
  · -- near
    have r2 : r * r ≤ 64 := by have := mul_le h8 h8 r0 (by decide +kernel); grind
    have r3 : r * r * r ≤ 512 := by have := mul_le r2 h8 r0 (by decide +kernel); grind
    have hv2 : N v ≤ 905 := by grind
    have k2 := Rat.mul_le_mul_of_nonneg_left hs0 q0
    have hq1 : N q ≤ 2073150000000 := by
      refine lcancel_le (show (0 : Rat) < 15 / 16 * (1 / 1073741824) by decide +kernel) ?_
      have : (1810 : Rat) ≤ 2073150000000 * (15 / 16 * (1 / 1073741824)) := by decide +kernel
      grind
    constructor
    · grind
    · grind
  · rcases Rat.le_total (a := r) (b := 40) with h40 | h40
    · have r2 : r * r ≤ 1600 := by have := mul_le h40 h40 r0 (by decide +kernel); grind
      have r3 : r * r * r ≤ 64000 := by have := mul_le r2 h40 r0 (by decide +kernel); grind
      have hv2 : N v ≤ 72000 := by grind
      have r4 : 0 ≤ (r - 8) * (3 / 2 * r + 3) := Rat.mul_nonneg (by grind) (by grind)
      have hs2 : 11 ≤ N s := by grind
      have k2 := Rat.mul_le_mul_of_nonneg_left hs2 q0
      have hq1 : N q ≤ 14000 := by grind
      constructor
      · grind
      · grind
    · have r2 : 40 * r ≤ r * r := Rat.mul_le_mul_of_nonneg_right h40 r0
      have rr0 : 0 ≤ r * r := Rat.mul_nonneg r0 r0
      have r3 : 40 * (r * r) ≤ r * (r * r) := Rat.mul_le_mul_of_nonneg_right h40 rr0
      have hs2 : 6 / 5 * (r * r) ≤ N s := by grind
      -- 3 (z - q) s = 2 z s + X
      have key : ((z - q) + (z - q) + (z - q) - (z + z)) * s = (s - cubS z B C) * z - ((v - cubV z B C D) + (v - cubV z B C D) + (v - cubV z B C D)) - (B * (z * z) + (C * z + C * z) + (D + D + D)) := by
        rw [← hq]
        exact q2e (by simp [cubS, cubV, one2, three2]; grind) (by simp [cubS, cubV, one2, three2]; grind)
      have k2 := quo_le key
      have x1 := N_sub ((s - cubS z B C) * z - ((v - cubV z B C D) + (v - cubV z B C D) + (v - cubV z B C D))) (B * (z * z) + (C * z + C * z) + (D + D + D))
      have x2 := N_sub ((s - cubS z B C) * z) ((v - cubV z B C D) + (v - cubV z B C D) + (v - cubV z B C D))
      have x3 := N_mul (s - cubS z B C) z
      rw [hr] at x3
      have x4 := N_add ((v - cubV z B C D) + (v - cubV z B C D)) (v - cubV z B C D)
      have x5 := N_add (v - cubV z B C D) (v - cubV z B C D)
      have x6 := N_add (B * (z * z) + (C * z + C * z)) (D + D + D)
      have x7 := N_add (B * (z * z)) (C * z + C * z)
      have x8 := N_mul B (z * z)
      have x9 := N_mul z z
      rw [hr] at x9
      have y1 := N_add (C * z) (C * z)
      have y2 := N_mul C z
      rw [hr] at y2
      have y3 := N_add (D + D) D
      have y4 := N_add D D
      have y5 := mul_le nB x9 (N_nonneg _) (by decide +kernel)
      have y6 := Rat.mul_le_mul_of_nonneg_right nC r0
      have y7 := Rat.mul_le_mul_of_nonneg_right hs r0
      have hX : N ((s - cubS z B C) * z - ((v - cubV z B C D) + (v - cubV z B C D) + (v - cubV z B C D)) - (B * (z * z) + (C * z + C * z) + (D + D + D))) ≤ (1 / 131072 * r + 26 / 5) * (r * r) := by
        clear key k2
        generalize N ((s - cubS z B C) * z - ((v - cubV z B C D) + (v - cubV z B C D) + (v - cubV z B C D)) - (B * (z * z) + (C * z + C * z) + (D + D + D))) = a0 at *
        generalize N ((s - cubS z B C) * z - ((v - cubV z B C D) + (v - cubV z B C D) + (v - cubV z B C D))) = a1 at *
        generalize N (B * (z * z) + (C * z + C * z) + (D + D + D)) = a2 at *
        generalize N ((s - cubS z B C) * z) = a3 at *
        generalize N ((v - cubV z B C D) + (v - cubV z B C D) + (v - cubV z B C D)) = a4 at *
        generalize N ((v - cubV z B C D) + (v - cubV z B C D)) = a5 at *
        generalize N (v - cubV z B C D) = a6 at *
        generalize N (B * (z * z) + (C * z + C * z)) = a7 at *
        generalize N (s - cubS z B C) = a8 at *
        grind
      have k3 := N_nonneg ((z - q) + (z - q) + (z - q) - (z + z))
      have k4 := Rat.mul_le_mul_of_nonneg_left hs2 k3
      have hp : 0 < r * r := by grind
      have k5 : N ((z - q) + (z - q) + (z - q) - (z + z)) ≤ 5 / 3 * (1 / 131072 * r + 26 / 5) := by
        refine lcancel_le hp ?_
        grind
      have k6 : 3 * N (z - q) ≤ 2 * r + N ((z - q) + (z - q) + (z - q) - (z + z)) := by
        have e2 : ∀ x : Rat, A (x + x + x) = 3 * A x := fun x => by rw [show x + x + x = 3 * x by grind, A_mul]; congr 1
        have h3 : N ((z - q) + (z - q) + (z - q)) = 3 * N (z - q) := by
          unfold N
          rw [show ((z - q) + (z - q) + (z - q)).re = (z - q).re + (z - q).re + (z - q).re from rfl, show ((z - q) + (z - q) + (z - q)).im = (z - q).im + (z - q).im + (z - q).im from rfl, e2, e2]
          grind
        have h4 := N_tri ((z - q) + (z - q) + (z - q)) (z + z)
        have h5 := N_add z z
        rw [h3] at h4
        grind
      have k7 : N (z - q) ≤ 3 / 4 * r := by grind
      have k8 := N_sub z (z - q)
      rw [show z - (z - q) = q from q2e (by simp; grind) (by simp; grind), hr] at k8
      clear key k2 x1 x2 x3 x4 x5 x6 x7 x8 x9 y1 y2 y3 y4 y5 y6 y7 hX k3 k4 k5 k6
      constructor
      · grind
      · grind

section
variable {D C B L z : C2}
theorem cubA (hD : fC D) (hC : fC C) (hB : fC B) (hL : fC L) (h1 : cv L = one2) (nB : N (cv B) ≤ 9 / 2) (nC : N (cv C) ≤ 12) (nD : N (cv D) ≤ 8) (gr : p2 (-6) ≤ A (cv C).re) (gi : p2 (-6) ≤ A (cv C).im)
    (hz : fC z) (bz : N (cv z) ≤ p2 41) :
    safeStep [D, C, B, L] z ∧ ((stepF [D, C, B, L] z).2 = true → fC (stepF [D, C, B, L] z).1 ∧ N (cv (stepF [D, C, B, L] z).1) ≤ p2 41) := by
  have m1 : (12 : Rat) < p2 100 := by decide +kernel
  obtain ⟨hr, hv, C', B', L', hS, hSv, hC', hB', hL', eC, eB, eL⟩ := slope4 hD hC hB hL h1 (by grind) (by grind)
  have nB' : N (cv B') ≤ 9 := by rw [eB]; have := N_add (cv B) (cv B); grind
  have no : N one2 ≤ 1 := by decide +kernel
  have nt : N three2 ≤ 3 := by decide +kernel
  obtain ⟨s1, H1⟩ := eval4 hz (Rat.le_refl) bz hL h1 no (Rat.le_refl) hB nB (by decide +kernel) hC nC (by decide +kernel) hD nD (by decide +kernel)
  obtain ⟨s2, H2⟩ := eval3 hz (Rat.le_refl) bz hL' eL nt (by decide +kernel) hB' nB' (by decide +kernel) hC' (by rw [eC]; exact nC) (by decide +kernel)
  obtain ⟨⟨s3, _⟩, H3⟩ := eval2 hz (Rat.le_refl) bz hL' eL nt (by decide +kernel) hB' nB' (by decide +kernel)
  have q41 : p2 41 = 2199023255552 := by decide +kernel
  have q42 : p2 42 = 4398046511104 := by decide +kernel
  have q126 : (100000000000000000000000000000000000000 / 2 : Rat) ≤ p2 126 := by decide +kernel
  have q100 : (100000000000000000000000000000 : Rat) ≤ p2 100 := by decide +kernel
  have r0 := N_nonneg (cv z)
  have bz' := bz
  rw [q41] at bz
  have hUc : Uc ≤ 1 / 8388608 := by decide +kernel
  have hUb : Ub ≤ 1 / 8388608 := by decide +kernel
  have hUa : Ua ≤ 1 / 8388608 := by decide +kernel
  have r2 := mul_le bz bz r0 (by decide +kernel)
  have rr0 := Rat.mul_nonneg r0 r0
  have r3 := mul_le r2 bz r0 (by decide +kernel)
  have rrr0 := Rat.mul_nonneg rr0 r0
  have hv1 : N (cv (nestedF [D, C, B, L] z) - cubV (cv z) (cv B) (cv C) (cv D)) ≤ 1 / 8388608 * (6 * (N (cv z) * N (cv z) * N (cv z)) + 45 / 2 * (N (cv z) * N (cv z)) + 36 * N (cv z) + 8) + 1 / 1000 := by
    have a1 := H1.err
    have a2 := Rat.mul_le_mul_of_nonneg_right hUc H1.P0
    have a3 : p2 (-60) ≤ 1 / 1000 := by decide +kernel
    have a4 : cubV (cv z) (cv B) (cv C) (cv D) = ((one2 * cv z + cv B) * cv z + cv C) * cv z + cv D := rfl
    rw [a4]
    generalize Uc = U at *
    generalize p2 (-60) = t at *
    grind
  have hs1 : N (cv (nestedF [C', B', L'] z) - cubS (cv z) (cv B) (cv C)) ≤ 1 / 8388608 * (12 * (N (cv z) * N (cv z)) + 27 * N (cv z) + 12) + 1 / 1000 := by
    have a1 := H2.err
    have a2 := Rat.mul_le_mul_of_nonneg_right hUb H2.P0
    have a3 : 6 * (e1 * 2199023255552) + 3 * e1 ≤ 1 / 1000 := by decide +kernel
    have a5 := Rat.mul_le_mul_of_nonneg_left bz (Rat.le_of_lt e1_pos)
    have a4 : cubS (cv z) (cv B) (cv C) = (three2 * cv z + cv B') * cv z + cv C' := by rw [eB, eC]; rfl
    rw [a4]
    generalize Ub = U at *
    generalize e1 = t at *
    grind
  have fv := H1.f
  have fs := H2.f
  have bv : N (cv (nestedF [D, C, B, L] z)) < p2 126 := by
    have a1 := H1.le
    have a2 := N_tri (cv (nestedF [D, C, B, L] z)) (cubV (cv z) (cv B) (cv C) (cv D))
    have a4 : cubV (cv z) (cv B) (cv C) (cv D) = ((one2 * cv z + cv B) * cv z + cv C) * cv z + cv D := rfl
    rw [← a4] at a1
    grind
  have bs : N (cv (nestedF [C', B', L'] z)) < p2 100 := by
    have a1 := H2.le
    have a2 := N_tri (cv (nestedF [C', B', L'] z)) (cubS (cv z) (cv B) (cv C))
    have a4 : cubS (cv z) (cv B) (cv C) = (three2 * cv z + cv B') * cv z + cv C' := by rw [eB, eC]; rfl
    rw [← a4] at a1
    grind
  -- the last sum of the slope
  have hg : N (cv (nestedF [C', B', L'] z)) = 0 ∨ 15 / 16 * p2 (-30) ≤ N (cv (nestedF [C', B', L'] z)) := by
    rw [nested3]
    have a1 := H3.err
    have a2 := H3.le
    have a3 := N_tri (cv (nestedF [B', L'] z)) (three2 * cv z + cv B')
    have a4 := Rat.mul_le_mul_of_nonneg_right hUa H3.P0
    have a5 : 3 * e1 ≤ 1 / 1000 := by decide +kernel
    have a6 : N (cv (nestedF [B', L'] z)) ≤ 20000000000000 := by
      generalize Ua = U at *
      generalize e1 = t at *
      grind
    have a7 := N_mul (cv (nestedF [B', L'] z)) (cv z)
    have a8 := mul_le a6 bz r0 (by decide +kernel)
    have q200 : (20000000000000 : Rat) < p2 200 := by decide +kernel
    have q126' : (20000000000000 * 2199023255552 * 2 + 100 : Rat) ≤ p2 126 := by decide +kernel
    have q127 : (p2 126 : Rat) ≤ p2 127 := by decide +kernel
    have u14 : u1 ≤ 1 := by decide +kernel
    have e14 : e1 ≤ 1 := by decide +kernel
    obtain ⟨_, g2⟩ := mulC_near H3.f hz (by grind) (by grind) (by grind)
    have a9 := g2.2
    have b1 := N_tri (cv (mulC (nestedF [B', L'] z) z)) (cv (nestedF [B', L'] z) * cv z)
    have b2 := Rat.mul_le_mul_of_nonneg_right u14 (N_nonneg (cv (nestedF [B', L'] z) * cv z))
    have b3 := N_add (cv (mulC (nestedF [B', L'] z) z)) (cv C')
    refine addC_grain g2.1 hC' (by rw [eC]; exact gr) (by rw [eC]; exact gi) ?_
    have b4 : N (cv C') ≤ 12 := by rw [eC]; exact nC
    show N (cv (mulC (nestedF [B', L'] z) z) + cv C') < p2 127
    generalize u1 = u at *
    generalize e1 = t at *
    grind
  rcases hg with hg | hg
  · obtain ⟨k1, k2⟩ := step_zero hr hv hS hSv hz fv fs s1 s2 bv hg
    exact ⟨k1, fun h => by rw [k2 h]; exact ⟨hz, bz'⟩⟩
  · have hs0 : 15 / 16 * (1 / 1073741824) ≤ N (cv (nestedF [C', B', L'] z)) := by
      have : p2 (-30) = 1 / 1073741824 := by decide +kernel
      rw [← this]; exact hg
    have hspos : 0 < N (cv (nestedF [C', B', L'] z)) := by
      have : (0 : Rat) < 15 / 16 * (1 / 1073741824) := by decide +kernel
      grind
    obtain ⟨q, hq⟩ := quo_ex (cv (nestedF [D, C, B, L] z)) hspos
    obtain ⟨k1, k2⟩ := cubA_pure nB nC nD hv1 hs1 hq hs0 bz
    have q40 : p2 (-40) ≤ 15 / 16 * (1 / 1073741824) := by decide +kernel
    obtain ⟨k3, z', k4, k5, k6⟩ := step_res hr hv hS hSv hz fv fs s1 s2 bv bs (by grind) bz' hq (by rw [q42]; exact k1)
    refine ⟨k3, fun _ => ?_⟩
    rw [k4]
    refine ⟨k5, ?_⟩
    show N (cv z') ≤ p2 41
    rw [q41]
    have a1 := N_tri (cv z') (cv z - q)
    have a2 : u1 ≤ 1 / 8388608 := by decide +kernel
    have a3 : 3 * e1 ≤ 1 / 1000 := by decide +kernel
    have a4 := Rat.mul_le_mul_of_nonneg_right a2 (show 0 ≤ 2 * N q + N (cv z - q) by have := N_nonneg q; have := N_nonneg (cv z - q); grind)
    generalize u1 = u at *
    generalize e1 = t at *
    grind
end
end Go.Proofs.Ytalfkkagbajjcaa
