/- Values of polynomials of two, three and four terms by Horner's rule, with their errors. Conditions: numbers of norm at most 2 ^ 41, terms of norm at most 32. -/
import Derived.Test.YtdnoilcfgicnnaaGreatY11
import Derived.Test.YtdnoilcfgicnnaaGreatY9
namespace Go.Proofs.YtdnoilcfgicnnaaGreat
set_option linter.unusedSimpArgs false
set_option linter.unusedVariables false
open Go

theorem Hs.mono {v : C2} {V V' : Q2} {P m t U P' m' t' : Rat} (h : Hs v V P m t U) (hV : V = V') (hP : P = P') (hm : m = m') (ht : t ≤ t') : Hs v V' P' m' t' U := by
  subst hV hP hm
  refine ⟨h.f, ?_, h.le, h.P0, ?_⟩
  · have := h.err; grind
  · have := h.t0; grind

theorem nested2 (B L z : C2) : nestedF [B, L] z = addC (mulC L z) B := rfl
theorem nested3 (C B L z : C2) : nestedF [C, B, L] z = addC (mulC (addC (mulC L z) B) z) C := rfl
theorem nested4 (D C B L z : C2) : nestedF [D, C, B, L] z = addC (mulC (addC (mulC (addC (mulC L z) B) z) C) z) D := rfl

theorem num_e : 3 * e1 ≤ p2 (-140) ∧ e1 ≤ p2 (-148) := by decide +kernel

section
variable {D C B L z : C2} {l : Q2} {r b c d m0 : Rat}
theorem eval2 (hz : fC z) (hr : N (cv z) ≤ r) (hr2 : r ≤ p2 41) (hL : fC L) (hl : cv L = l) (h0 : N l ≤ m0) (h04 : m0 ≤ 4) (hB : fC B) (hb : N (cv B) ≤ b) (hb2 : b ≤ 32) :
    safeN [B, L] z ∧ Hs (nestedF [B, L] z) (l * cv z + cv B) (2 * m0 * r + b) (m0 * r + b) (3 * e1) Ua := by
  have z0 := hs_zero hL hl h0
  have n0 := z0.m0
  have r0 : 0 ≤ r := by have := N_nonneg (cv z); grind
  have q1 : (p2 41 : Rat) = 2199023255552 := by decide +kernel
  have q2 : (2199023255552 * 8 : Rat) < p2 124 := by decide +kernel
  have q3 : (2199023255552 : Rat) < p2 200 := by decide +kernel
  rw [q1] at hr2
  have k1 := mul_le h04 hr2 r0 (by decide +kernel)
  obtain ⟨s1, h1⟩ := hs_step z0 hz hB hr hb Ua_ok (by decide +kernel) (by grind) (by grind) (by grind)
  exact ⟨⟨s1, trivial⟩, h1.mono rfl (by grind) rfl (by grind)⟩
theorem eval3 (hz : fC z) (hr : N (cv z) ≤ r) (hr2 : r ≤ p2 41) (hL : fC L) (hl : cv L = l) (h0 : N l ≤ m0) (h04 : m0 ≤ 4) (hB : fC B) (hb : N (cv B) ≤ b) (hb2 : b ≤ 32) (hC : fC C) (hc : N (cv C) ≤ c) (hc2 : c ≤ 32) :
    safeN [C, B, L] z ∧ Hs (nestedF [C, B, L] z) ((l * cv z + cv B) * cv z + cv C) (4 * m0 * (r * r) + 3 * (b * r) + c) (m0 * (r * r) + b * r + c) (6 * (e1 * r) + 3 * e1) Ub := by
  obtain ⟨⟨s1, _⟩, h1⟩ := eval2 hz hr hr2 hL hl h0 h04 hB hb hb2
  have r0 : 0 ≤ r := by have := N_nonneg (cv z); grind
  have n0 : 0 ≤ m0 := by have := N_nonneg l; grind
  have b0 : 0 ≤ b := by have := N_nonneg (cv B); grind
  have q1 : (p2 41 : Rat) = 2199023255552 := by decide +kernel
  have q2 : ((8796093022208 + 32 + 17592186044416 + 32 + 1) * 2199023255552 + 32 : Rat) < p2 124 := by decide +kernel
  have q3 : (8796093022208 + 32 + 17592186044416 + 32 + 1 : Rat) < p2 200 := by decide +kernel
  have q4 : 3 * e1 ≤ 1 := by decide +kernel
  rw [q1] at hr2
  have k1 := mul_le h04 hr2 r0 (by decide +kernel)
  have k2 : m0 * r + b + (2 * m0 * r + b) * (1 / 1048576) + 3 * e1 ≤ 8796093022208 + 32 + 17592186044416 + 32 + 1 := by grind
  have k3 := mul_le k2 hr2 r0 (by decide +kernel)
  obtain ⟨s2, h2⟩ := hs_step h1 hz hC hr hc Ub_ok ⟨Ua_ok.2.2.1, Ua_ok.2.2.2⟩ (by grind) (by grind) (by grind)
  exact ⟨⟨s1, s2, trivial⟩, h2.mono rfl (by grind) (by grind) (by grind)⟩
theorem eval4 (hz : fC z) (hr : N (cv z) ≤ r) (hr2 : r ≤ p2 41) (hL : fC L) (hl : cv L = l) (h0 : N l ≤ m0) (h04 : m0 ≤ 1) (hB : fC B) (hb : N (cv B) ≤ b) (hb2 : b ≤ 32) (hC : fC C) (hc : N (cv C) ≤ c) (hc2 : c ≤ 32)
    (hD : fC D) (hd : N (cv D) ≤ d) (hd2 : d ≤ 32) :
    safeN [D, C, B, L] z ∧ Hs (nestedF [D, C, B, L] z) (((l * cv z + cv B) * cv z + cv C) * cv z + cv D) (6 * m0 * (r * r * r) + 5 * (b * (r * r)) + 3 * (c * r) + d) (m0 * (r * r * r) + b * (r * r) + c * r + d) (p2 (-60)) Uc := by
  obtain ⟨⟨s1, s2, _⟩, h2⟩ := eval3 hz hr hr2 hL hl h0 (by grind) hB hb hb2 hC hc hc2
  have r0 : 0 ≤ r := by have := N_nonneg (cv z); grind
  have n0 : 0 ≤ m0 := by have := N_nonneg l; grind
  have b0 : 0 ≤ b := by have := N_nonneg (cv B); grind
  have q1 : (p2 41 : Rat) = 2199023255552 := by decide +kernel
  have q2 : ((2199023255552 * 2199023255552 * (3 / 2) + 32 * 2199023255552 * 4 + 64 + 1) * 2199023255552 + 32 : Rat) < p2 124 := by decide +kernel
  have q3 : (2199023255552 * 2199023255552 * (3 / 2) + 32 * 2199023255552 * 4 + 64 + 1 : Rat) < p2 200 := by decide +kernel
  have q4 : 6 * (e1 * 2199023255552) + 3 * e1 ≤ 1 := by decide +kernel
  have q5 : 12 * (e1 * (2199023255552 * 2199023255552)) + 6 * (e1 * 2199023255552) + 3 * e1 ≤ p2 (-60) := by decide +kernel
  have e0 := e1_pos
  rw [q1] at hr2
  have k1 := mul_le hr2 hr2 r0 (by decide +kernel)
  have k2 := mul_le h04 k1 (Rat.mul_nonneg r0 r0) (by decide)
  have k3 := mul_le hb2 hr2 r0 (by decide +kernel)
  have k4 := Rat.mul_le_mul_of_nonneg_left hr2 (Rat.le_of_lt e0)
  have k5 := Rat.mul_le_mul_of_nonneg_left k1 (Rat.le_of_lt e0)
  have k6 : m0 * (r * r) + b * r + c + (4 * m0 * (r * r) + 3 * (b * r) + c) * (1 / 1048576) + (6 * (e1 * r) + 3 * e1) ≤ 2199023255552 * 2199023255552 * (3 / 2) + 32 * 2199023255552 * 4 + 64 + 1 := by
    clear hr hL hl h0 hB hb hC hc hD hd h2 s1 s2 q5 k5 q2 q3
    generalize e1 = e at *
    grind
  have k7 := mul_le k6 hr2 r0 (by decide +kernel)
  obtain ⟨s3, h3⟩ := hs_step h2 hz hD hr hd Uc_ok ⟨Ub_ok.2.2.1, Ub_ok.2.2.2⟩ (by grind) (by grind) (by grind)
  refine ⟨⟨s1, s2, s3, trivial⟩, h3.mono rfl (by grind) (by grind) ?_⟩
  clear hr hL hl h0 hB hb hC hc hD hd h2 s1 s2 h3 q2 q3 q4 k6 k7 k1 k2 k3 s3
  generalize e1 = e at *
  generalize p2 (-60) = x at *
  grind
end
end Go.Proofs.YtdnoilcfgicnnaaGreat

/- A Newton step on values: where the slope is 0 it stands or ends; elsewhere its result is near the exact one of the computed value and slope. Conditions: nothing is too great, the slope is 0 or not too small. -/
namespace Go.Proofs.YtdnoilcfgicnnaaGreat
set_option linter.unusedSimpArgs false
set_option linter.unusedVariables false
open Go

theorem N_zero {z : Q2} (h : N z = 0) : z.re = 0 ∧ z.im = 0 := by
  have n1 := A_nonneg z.re; have n2 := A_nonneg z.im
  unfold N at h
  exact ⟨A_eq_zero (by grind), A_eq_zero (by grind)⟩
theorem sqN_nonneg (z : Q2) : 0 ≤ sqN z := by have := sq_nonneg z.re; have := sq_nonneg z.im; unfold sqN; grind
theorem sqN_pos {z : Q2} (h : 0 < N z) : 0 < sqN z := by
  have h1 := sqN_ge z
  have h2 := Rat.mul_pos h h
  grind
/-- There is a quotient. -/
theorem quo_ex (v : Q2) {s : Q2} (h : 0 < N s) : ∃ q : Q2, q * s = v := by
  have h1 := sqN_pos h
  have h2 : sqN s * (sqN s)⁻¹ = 1 := Rat.mul_inv_cancel _ (by intro h0; rw [h0] at h1; exact absurd h1 (by decide))
  unfold sqN at h2
  generalize (s.re * s.re + s.im * s.im)⁻¹ = i at h2
  refine ⟨⟨(v.re * s.re + v.im * s.im) * i, (v.im * s.re - v.re * s.im) * i⟩, q2e ?_ ?_⟩
  · simp only [re_mul]
    have : (v.re * s.re + v.im * s.im) * i * s.re - (v.im * s.re - v.re * s.im) * i * s.im = v.re * ((s.re * s.re + s.im * s.im) * i) := by grind
    rw [this, h2]; grind
  · simp only [im_mul]
    have : (v.re * s.re + v.im * s.im) * i * s.im + (v.im * s.re - v.re * s.im) * i * s.re = v.im * ((s.re * s.re + s.im * s.im) * i) := by grind
    rw [this, h2]; grind
/-- The norm of a quotient, by the divisor's square. -/
theorem quo_sq {q s v : Q2} (h : q * s = v) : N q * sqN s ≤ N v * N s := by
  have e1 : q.re * sqN s = v.re * s.re + v.im * s.im := by rw [← h]; simp only [re_mul, im_mul, sqN]; grind
  have e2 : q.im * sqN s = v.im * s.re - v.re * s.im := by rw [← h]; simp only [re_mul, im_mul, sqN]; grind
  have h0 := sqN_nonneg s
  have a1 := A_mul q.re (sqN s)
  have a2 := A_mul q.im (sqN s)
  rw [A_of_nonneg h0] at a1 a2
  have b1 := A_add (v.re * s.re) (v.im * s.im)
  have b2 := A_sub (v.im * s.re) (v.re * s.im)
  simp only [A_mul] at b1 b2
  rw [e1] at a1
  rw [e2] at a2
  unfold N
  grind
theorem quo_le {q s v : Q2} (h : q * s = v) : N q * N s ≤ 2 * N v := by
  rcases Rat.le_total (a := N s) (b := 0) with h0 | h0
  · have n1 := N_nonneg s
    have : N s = 0 := Rat.le_antisymm h0 n1
    have n2 := N_nonneg v
    rw [this]; grind
  · by_cases hz : N s = 0
    · have n2 := N_nonneg v
      rw [hz]; grind
    · have hp : 0 < N s := by have := N_nonneg s; grind
      refine lcancel_le hp ?_
      have k1 := quo_sq h
      have k2 := sqN_ge s
      have k3 := Rat.mul_le_mul_of_nonneg_left k2 (N_nonneg q)
      grind

theorem lt_of_p2 {x : Rat} {a b : Int} (h : x ≤ p2 a) (hab : a < b) : x < p2 b := by
  have h1 := p2_mono (show a + 1 ≤ b by omega)
  have h2 : p2 a + p2 a = p2 (a + 1) := p2_two a
  have h3 := p2_pos a
  grind

section
variable {F S : List C2} {z : C2}
/-- Where the slope is 0. -/
theorem step_zero (hr : rootedF F = true) (hv : validF F = true) (hS : slopePolyF F = (S, true)) (hSv : validF S = true) (hz : fC z) (h1 : fC (nestedF F z)) (h2 : fC (nestedF S z))
    (hs1 : safeN F z) (hs2 : safeN S z) (b1 : N (cv (nestedF F z)) < p2 126) (h0 : N (cv (nestedF S z)) = 0) :
    safeStep F z ∧ ((stepF F z).2 = true → (stepF F z).1 = z) := by
  obtain ⟨e, hsafe⟩ := step_shape hr hv hS hSv hz h1 h2
  obtain ⟨q1, q2⟩ := quoC_zero h1 h2 h0 b1
  rw [fC_iff] at q2
  refine ⟨hsafe.2 ⟨hs1, hs2, q1⟩, ?_⟩
  rw [e]
  by_cases hz0 : zeroC (nestedF F z) = true
  · rw [if_pos hz0]; intro _; rfl
  · rw [if_neg hz0, if_neg q2]; intro h; cases h
/-- Where the slope is not too small. -/
theorem step_res (hr : rootedF F = true) (hv : validF F = true) (hS : slopePolyF F = (S, true)) (hSv : validF S = true) (hz : fC z) (h1 : fC (nestedF F z)) (h2 : fC (nestedF S z))
    (hs1 : safeN F z) (hs2 : safeN S z) (b1 : N (cv (nestedF F z)) < p2 126) (b2 : N (cv (nestedF S z)) < p2 100) (b3 : p2 (-40) ≤ N (cv (nestedF S z)))
    (bz : N (cv z) ≤ p2 41) {q : Q2} (hq : q * cv (nestedF S z) = cv (nestedF F z)) (bq : N q ≤ p2 42) :
    safeStep F z ∧ ∃ z', stepF F z = (z', true) ∧ fC z' ∧ N (cv z' - (cv z - q)) ≤ u1 * (2 * N q + N (cv z - q)) + 3 * e1 := by
  obtain ⟨e, hsafe⟩ := step_shape hr hv hS hSv hz h1 h2
  obtain ⟨q1, q2⟩ := quoC_near h1 h2 hq b1 b2 b3 (lt_of_p2 bq (by decide))
  refine ⟨hsafe.2 ⟨hs1, hs2, q1⟩, ?_⟩
  rw [e]
  have hu := u1_pos
  have he := e1_pos
  have hu4 : u1 ≤ 1 / 4 := by decide +kernel
  have he4 : e1 ≤ 1 := by decide +kernel
  obtain ⟨u, hu'⟩ : ∃ u, u1 = u := ⟨_, rfl⟩
  obtain ⟨f, he'⟩ : ∃ f, e1 = f := ⟨_, rfl⟩
  rw [hu'] at hu hu4 ⊢
  rw [he'] at he he4 ⊢
  have q0 := N_nonneg q
  have d0 := N_nonneg (cv z - q)
  have uq0 := Rat.mul_nonneg (Rat.le_of_lt hu) q0
  have ud0 := Rat.mul_nonneg (Rat.le_of_lt hu) d0
  by_cases hz0 : zeroC (nestedF F z) = true
  · rw [if_pos hz0]
    refine ⟨z, rfl, hz, ?_⟩
    have hv0 := (zeroC_iff ((fC_iff _).1 h1)).1 hz0
    have hN0 : N (cv (nestedF F z)) = 0 := by
      show A (vN .f32 _) + A (vN .f32 _) = 0
      rw [hv0.1, hv0.2, A_zero]; decide +kernel
    have k1 := quo_le hq
    rw [hN0] at k1
    have k2 : N q * N (cv (nestedF S z)) ≤ 0 * N (cv (nestedF S z)) := by grind
    have k3 : N q ≤ 0 := lcancel_le (by have := p2_pos (-40); grind) k2
    have k4 := N_zero (Rat.le_antisymm k3 q0)
    have k5 : cv z - (cv z - q) = q := q2e (by simp; grind) (by simp; grind)
    rw [k5]
    have : 0 ≤ u * (2 * N q + N (cv z - q)) := Rat.mul_nonneg (Rat.le_of_lt hu) (by grind)
    grind
  · rw [if_neg hz0, if_pos ((fC_iff _).1 q2.1)]
    have g := q2.2
    rw [hu', he'] at g
    have t1 := N_tri (cv (quoC (nestedF F z) (nestedF S z))) q
    have s1 : N (cv z - cv (quoC (nestedF F z) (nestedF S z))) ≤ N (cv z - q) + (u * N q + f) := by
      have : cv z - cv (quoC (nestedF F z) (nestedF S z)) = (cv z - q) - (cv (quoC (nestedF F z) (nestedF S z)) - q) := q2e (by simp; grind) (by simp; grind)
      rw [this]
      have := N_sub (cv z - q) (cv (quoC (nestedF F z) (nestedF S z)) - q)
      grind
    have s2 : N (cv z - q) ≤ p2 41 + p2 42 := by have := N_sub (cv z) q; grind
    have s3 : N (cv z - cv (quoC (nestedF F z) (nestedF S z))) < p2 127 := by
      have c1 : p2 41 + p2 42 + (1 / 4 * p2 42 + 1) < p2 127 := by decide +kernel
      have c2 : u * N q ≤ 1 / 4 * p2 42 := mul_le hu4 bq q0 (by decide +kernel)
      grind
    have hn := subC_near hz q2.1 s3
    refine ⟨_, by unfold finiteX; rw [if_pos ((fC_iff _).1 hn.1)], hn.1, ?_⟩
    have g2 := hn.2
    rw [hu', he'] at g2
    have eq : cv (subC z (quoC (nestedF F z) (nestedF S z))) - (cv z - q) = (cv (subC z (quoC (nestedF F z) (nestedF S z))) - (cv z - cv (quoC (nestedF F z) (nestedF S z)))) - (cv (quoC (nestedF F z) (nestedF S z)) - q) := q2e (by simp; grind) (by simp; grind)
    rw [eq]
    have g3 := N_sub (cv (subC z (quoC (nestedF F z) (nestedF S z))) - (cv z - cv (quoC (nestedF F z) (nestedF S z)))) (cv (quoC (nestedF F z) (nestedF S z)) - q)
    have g4 := Rat.mul_le_mul_of_nonneg_left s1 (Rat.le_of_lt hu)
    have g5 := Rat.mul_le_mul_of_nonneg_right hu4 uq0
    have g6 := Rat.mul_le_mul_of_nonneg_right hu4 (Rat.le_of_lt he)
    clear e eq s3 s2 s1 hn q2 q1 hsafe b1 b2 b3 bq bz t1 hu4 he4 hs1 hs2
    generalize N (cv (subC z (quoC (nestedF F z) (nestedF S z))) - (cv z - cv (quoC (nestedF F z) (nestedF S z))) - (cv (quoC (nestedF F z) (nestedF S z)) - q)) = a1 at *
    generalize N (cv (subC z (quoC (nestedF F z) (nestedF S z))) - (cv z - cv (quoC (nestedF F z) (nestedF S z)))) = a2 at *
    generalize N (cv (quoC (nestedF F z) (nestedF S z)) - q) = a3 at *
    generalize N (cv z - cv (quoC (nestedF F z) (nestedF S z))) = a4 at *
    generalize N (cv z - q) = a5 at *
    generalize N q = a6 at *
    grind
end
end Go.Proofs.YtdnoilcfgicnnaaGreat

/- Plain facts of values: whole numbers, roots of squares. Conditions: as told. -/
namespace Go.Proofs.YtdnoilcfgicnnaaGreat
open Go
set_option linter.unusedSimpArgs false
set_option linter.unusedVariables false

theorem A_int (i : Int) : A (i : Rat) = ((i.natAbs : Nat) : Rat) := by
  rcases Int.le_total 0 i with h | h
  · have h1 : ((i.natAbs : Nat) : Rat) = (i : Rat) := by rw [← Rat.intCast_natCast]; congr 1; omega
    rw [h1, A_of_nonneg (by exact_mod_cast h)]
  · have h1 : ((i.natAbs : Nat) : Rat) = -(i : Rat) := by rw [← Rat.intCast_natCast, ← Rat.intCast_neg]; congr 1; omega
    rw [h1, A_of_nonpos (by exact_mod_cast h)]
theorem A_intm (i : Int) {e : Rat} (he : 0 ≤ e) : A ((i : Rat) * e) = ((i.natAbs : Nat) : Rat) * e := by rw [A_mul, A_int, A_of_nonneg he]
theorem mulb {a b U V : Int} (ha : -U ≤ a ∧ a ≤ U) (hb : -V ≤ b ∧ b ≤ V) : -(U * V) ≤ a * b ∧ a * b ≤ U * V := by
  have h1 : 0 ≤ (U - a) * (V + b) := Int.mul_nonneg (by omega) (by omega)
  have h2 : 0 ≤ (U + a) * (V - b) := Int.mul_nonneg (by omega) (by omega)
  have h3 : 0 ≤ (U - a) * (V - b) := Int.mul_nonneg (by omega) (by omega)
  have h4 : 0 ≤ (U + a) * (V + b) := Int.mul_nonneg (by omega) (by omega)
  constructor <;> grind
theorem fC0 : fC (0, 0) ∧ N (cv (0, 0)) ≤ p2 41 := by
  have h0 : FloatKind.f32.decode 0 = .number false 0 (-149) := by decide +kernel
  have h1 : fN .f32 0 = true := by unfold fN; rw [h0]; rfl
  have h2 : vN .f32 0 = 0 := by unfold vN; rw [h0]; decide +kernel
  refine ⟨⟨h1, h1⟩, ?_⟩
  show A (vN .f32 0) + A (vN .f32 0) ≤ p2 41
  rw [h2]; decide +kernel
theorem rootFrom_le (n : Nat) : ∀ todo root, root * root ≤ n → Ieee.Datum.rootFrom n todo root * Ieee.Datum.rootFrom n todo root ≤ n := by
  intro todo
  induction todo with
  | zero => exact fun root h => h
  | succ k ih =>
    intro root h
    unfold Ieee.Datum.rootFrom
    dsimp only
    split
    · rename_i h2; exact ih _ h2
    · exact ih _ h
theorem sq_le_sq {a b : Rat} (hb : 0 ≤ b) (h : a * a ≤ b * b) : a ≤ b := by
  rcases Rat.le_total (a := a) (b := b) with h1 | h1
  · exact h1
  · by_cases h0 : a = 0
    · rw [h0]; exact hb
    · have hp : 0 < a := by grind
      have := mul_le h1 (Rat.le_refl (a := a)) (Rat.le_of_lt hp) (Rat.le_of_lt hp)
      refine lcancel_le hp ?_
      have k := Rat.mul_le_mul_of_nonneg_left h1 hb
      grind
/-- Square roots fit. -/
theorem sqF_fit {y : Nat} (h : fN .f64 y = true) (hb : A (vN .f64 y) ≤ p2 90) : fit1 (sqF y) := by
  obtain ⟨s, m, i, hd⟩ := isNum_ex h
  have hv : A (vN .f64 y) = (m : Rat) * p2 i := by unfold vN; rw [hd, A_val]
  rw [hv] at hb
  have hq : sqF y = nrm .f64 (((Ieee.Datum.root 54 (.number s m i)).map FloatKind.f64.format.write).getD (qnan .f64)) := by
    unfold sqF Ieee.Format.sqrt
    rw [show FloatKind.f64.format.read y = .number s m i from hd]
    rfl
  rw [hq]
  unfold Ieee.Datum.root
  dsimp only
  have key : ∀ d : Ieee.Datum, isNum d = true → A (valD d) ≤ p2 60 → fit1 (nrm .f64 (((some d).map FloatKind.f64.format.write).getD (qnan .f64))) := by
    intro d h1 h2
    have h3 : p2 60 < p2 1023 := lt_of_p2 (Rat.le_refl (a := p2 60)) (by decide)
    obtain ⟨w1, w2, _⟩ := write_ok .f64 d h1 (show A (valD d) < p2 1023 by grind)
    have e1' : nrm .f64 (((some d).map FloatKind.f64.format.write).getD (qnan .f64)) = FloatKind.f64.encode d := fN_nrm w1
    rw [e1']
    refine (nw_ok w1 ?_).1
    have t1 := A_add (vN .f64 (FloatKind.f64.encode d) - valD d) (valD d)
    rw [show vN .f64 (FloatKind.f64.encode d) - valD d + valD d = vN .f64 (FloatKind.f64.encode d) by grind] at t1
    have u0 : uK .f64 ≤ 1 := by decide +kernel
    have u2 : eK .f64 ≤ 1 := by decide +kernel
    have u3 := Rat.mul_le_mul_of_nonneg_right u0 (A_nonneg (valD d))
    have u4 : 2 * p2 60 + 1 < p2 127 := by decide +kernel
    generalize uK .f64 = a at *
    generalize eK .f64 = b at *
    generalize p2 60 = c at *
    generalize p2 127 = g at *
    clear h3 hq hv hb
    grind
  by_cases hm : m = 0
  · rw [if_pos hm]
    refine key _ rfl ?_
    rw [A_val, hm, show ((0 : Nat) : Rat) = 0 from rfl]
    have := p2_pos 60
    grind
  · rw [if_neg hm]
    cases s
    · simp only [Bool.false_eq_true, if_false]
      generalize hmore : 2 * 54 - m.log2 + ((i - ((2 * 54 - m.log2 : Nat) : Int)) % 2).toNat = more
      obtain ⟨E, hE⟩ : ∃ E : Int, i - (more : Int) = 2 * E := ⟨(i - (more : Int)) / 2, by omega⟩
      have hE2 : (i - (more : Int)) / 2 - 1 = E - 1 := by omega
      have hwl := rootFrom_le (m <<< more) ((m <<< more).log2 / 2 + 1) 0 (by simp)
      generalize Ieee.Datum.rootFrom (m <<< more) ((m <<< more).log2 / 2 + 1) 0 = wh at *
      rw [hE2]
      refine key _ rfl ?_
      rw [A_val]
      have hst : ((2 * wh + (wh * wh != m <<< more).toNat : Nat) : Rat) ≤ 2 * (wh : Rat) + 1 := by
        have : 2 * wh + (wh * wh != m <<< more).toNat ≤ 2 * wh + 1 := by
          have := Bool.toNat_le (wh * wh != m <<< more); omega
        have h2 : ((2 * wh + (wh * wh != m <<< more).toNat : Nat) : Rat) ≤ ((2 * wh + 1 : Nat) : Rat) := by exact_mod_cast this
        rw [Rat.natCast_add (2 * wh) 1, Rat.natCast_mul] at h2
        exact h2
      rw [Nat.shiftLeft_eq] at hwl
      have hwl2 : ((wh : Nat) : Rat) * (wh : Rat) ≤ (m : Rat) * p2 (more : Int) := by
        rw [p2_nat, ← Rat.natCast_mul, ← Rat.natCast_mul]; exact_mod_cast hwl
      have m1 : (1 : Rat) ≤ (m : Rat) := by exact_mod_cast Nat.pos_of_ne_zero hm
      have pE := p2_pos E
      have p2E : p2 E * p2 E = p2 (i - (more : Int)) := by rw [← p2_add]; congr 1; omega
      have pim : p2 (more : Int) * p2 (i - (more : Int)) = p2 i := by rw [← p2_add]; congr 1; omega
      have p90 : p2 90 = p2 45 * p2 45 := by rw [← p2_add]; rfl
      have w1 : (wh : Rat) * p2 E ≤ p2 45 := by
        refine sq_le_sq (Rat.le_of_lt (p2_pos 45)) ?_
        rw [← p90]
        have a1 := Rat.mul_le_mul_of_nonneg_right hwl2 (Rat.le_of_lt (p2_pos (i - (more : Int))))
        have a2 : (wh : Rat) * p2 E * ((wh : Rat) * p2 E) = (wh : Rat) * (wh : Rat) * p2 (i - (more : Int)) := by rw [← p2E]; grind
        rw [Rat.mul_assoc (m : Rat), pim] at a1
        rw [a2]
        exact Rat.le_trans a1 hb
      have w2 : p2 E ≤ p2 45 := by
        refine sq_le_sq (Rat.le_of_lt (p2_pos 45)) ?_
        rw [← p90, p2E]
        have a1 : 1 * p2 i ≤ (m : Rat) * p2 i := Rat.mul_le_mul_of_nonneg_right m1 (Rat.le_of_lt (p2_pos i))
        have a3 : p2 (i - (more : Int)) ≤ p2 i := p2_mono (by omega)
        rw [Rat.one_mul] at a1
        exact Rat.le_trans a3 (Rat.le_trans a1 hb)
      have w3 : p2 E = p2 (E - 1) + p2 (E - 1) := p2_dbl (by omega)
      have w4 := Rat.mul_le_mul_of_nonneg_right hst (Rat.le_of_lt (p2_pos (E - 1)))
      have w5 : p2 45 + p2 45 ≤ p2 60 := by decide +kernel
      have w6 := p2_pos (E - 1)
      rw [w3] at w1 w2
      generalize p2 (E - 1) = x1 at *
      generalize p2 45 = x2 at *
      generalize p2 60 = x3 at *
      generalize ((2 * wh + (wh * wh != m <<< more).toNat : Nat) : Rat) = x4 at *
      generalize (wh : Rat) = x5 at *
      clear key hq hd hv hb hwl2 p2E pim p90 hst
      grind
    · simp only [if_true]
      show fit1 (nrm .f64 (qnan .f64))
      rw [nrm_qnan]
      unfold fit1
      decide +kernel
theorem nat_le_q {n m : Nat} {u : Rat} {q : Rat} (h : n ≤ m) (hu : 0 ≤ u) (hq : (m : Rat) * u ≤ q) : (n : Rat) * u ≤ q := by
  have h1 : (n : Rat) ≤ (m : Rat) := by exact_mod_cast h
  exact Rat.le_trans (Rat.mul_le_mul_of_nonneg_right h1 hu) hq
end Go.Proofs.YtdnoilcfgicnnaaGreat

/- Polynomials of one, two and three drawn roots: their terms are exact. Conditions: roots in eighths, of small parts. -/
namespace Go.Proofs.YtdnoilcfgicnnaaGreat
set_option linter.unusedSimpArgs false
set_option linter.unusedVariables false
open Go

/-- A complex number of two float32 worth (a + b i) / 2 ^ j. -/
def Gr (w : C2) (a b : Int) (j : Nat) : Prop := fC w ∧ cv w = ⟨(a : Rat) * p2 (-(j : Int)), (b : Rat) * p2 (-(j : Int))⟩
theorem A_dy (a : Int) (j : Nat) : A ((a : Rat) * p2 (-(j : Int))) = ((a.natAbs : Nat) : Rat) * p2 (-(j : Int)) := A_intm a (Rat.le_of_lt (p2_pos _))
theorem dy_lt {a : Int} {j : Nat} {n : Nat} (h : a.natAbs < 2 ^ n) : A ((a : Rat) * p2 (-(j : Int))) < p2 (n : Int) := by
  rw [A_dy, p2_nat]
  have h1 : p2 (-(j : Int)) ≤ 1 := p2_small (by omega)
  have h2 : ((a.natAbs : Nat) : Rat) < ((2 ^ n : Nat) : Rat) := by exact_mod_cast h
  have h3 : (0 : Rat) ≤ ((a.natAbs : Nat) : Rat) := by exact_mod_cast Nat.zero_le _
  have := Rat.mul_le_mul_of_nonneg_left h1 h3
  generalize p2 (-(j : Int)) = x at *
  grind
theorem exact32 {r : Nat} {q : Rat} {a : Int} {j : Nat} (h : Res .f32 r q) (hq : q = (a : Rat) * p2 (-(j : Int))) (ha : a.natAbs < 2 ^ 24) (hj : j ≤ 100) : vN .f32 r = q :=
  h.2.2 a.natAbs (-(j : Int)) (by rw [hq, A_dy]) ha (by have : lK .f32 = -149 := rfl; omega)
theorem exact64 {r : Nat} {q : Rat} {a : Int} {j : Nat} (h : Res .f64 r q) (hq : q = (a : Rat) * p2 (-(j : Int))) (ha : a.natAbs < 2 ^ 24) (hj : j ≤ 100) : vN .f64 r = q :=
  h.2.2 a.natAbs (-(j : Int)) (by rw [hq, A_dy]) (Nat.lt_trans ha (by decide)) (by have : lK .f64 = -1074 := rfl; omega)

theorem part_exact {P Q : Nat} {p q : Rat} {a : Int} {j : Nat} (hP : fN .f64 P = true) (hp : vN .f64 P = p) (hQ : fN .f64 Q = true) (hq : vN .f64 Q = q) (ha : a.natAbs < 2 ^ 24) (hj : j ≤ 100) :
    (p + q = (a : Rat) * p2 (-(j : Int)) → fit1 (fop .add .f64 P Q) ∧ fN .f32 (nw (fop .add .f64 P Q)) = true ∧ vN .f32 (nw (fop .add .f64 P Q)) = p + q) ∧
    (p - q = (a : Rat) * p2 (-(j : Int)) → fit1 (fop .sub .f64 P Q) ∧ fN .f32 (nw (fop .sub .f64 P Q)) = true ∧ vN .f32 (nw (fop .sub .f64 P Q)) = p - q) := by
  have hlt := dy_lt (j := j) ha
  have h24 : p2 ((24 : Nat) : Int) ≤ p2 1023 := p2_mono (by decide)
  have h25 : p2 ((24 : Nat) : Int) ≤ p2 127 := p2_mono (by decide)
  constructor
  · intro h
    have R1 := fop_add_res (k := .f64) hP hQ (by rw [hp, hq, h]; show _ < p2 1023; grind)
    rw [hp, hq] at R1
    have v1 := exact64 R1 h ha hj
    obtain ⟨f1, R2⟩ := nw_ok R1.1 (by rw [v1, h]; grind)
    rw [v1] at R2
    exact ⟨f1, R2.1, exact32 R2 h ha hj⟩
  · intro h
    have R1 := fop_sub_res (k := .f64) hP hQ (by rw [hp, hq, h]; show _ < p2 1023; grind)
    rw [hp, hq] at R1
    have v1 := exact64 R1 h ha hj
    obtain ⟨f1, R2⟩ := nw_ok R1.1 (by rw [v1, h]; grind)
    rw [v1] at R2
    exact ⟨f1, R2.1, exact32 R2 h ha hj⟩

theorem Gr.parts {w : C2} {a b : Int} {j : Nat} (h : Gr w a b j) : (fN .f32 w.1 = true ∧ vN .f32 w.1 = (a : Rat) * p2 (-(j : Int))) ∧ fN .f32 w.2 = true ∧ vN .f32 w.2 = (b : Rat) * p2 (-(j : Int)) :=
  ⟨⟨h.1.1, congrArg Q2.re h.2⟩, h.1.2, congrArg Q2.im h.2⟩
theorem Gr.mul {x y : C2} {a b c d : Int} {i j : Nat} (hx : Gr x a b i) (hy : Gr y c d j) (ha : a.natAbs < 2 ^ 11) (hb : b.natAbs < 2 ^ 11) (hc : c.natAbs < 2 ^ 11) (hd : d.natAbs < 2 ^ 11) (hij : i + j ≤ 100) :
    fit2 (timesF x y) ∧ Gr (mulC x y) (a * c - b * d) (a * d + b * c) (i + j) := by
  obtain ⟨⟨x1, x2⟩, x3, x4⟩ := hx.parts
  obtain ⟨⟨y1, y2⟩, y3, y4⟩ := hy.parts
  have b11 : p2 ((11 : Nat) : Int) ≤ p2 200 := p2_mono (by decide)
  have l1 := dy_lt (j := i) ha
  have l2 := dy_lt (j := i) hb
  have l3 := dy_lt (j := j) hc
  have l4 := dy_lt (j := j) hd
  rw [← x2] at l1
  rw [← x4] at l2
  rw [← y2] at l3
  rw [← y4] at l4
  obtain ⟨p1, p2'⟩ := prod_exact x1 y1 (by grind) (by grind)
  obtain ⟨q1, q2⟩ := prod_exact x3 y3 (by grind) (by grind)
  obtain ⟨r1, r2⟩ := prod_exact x1 y3 (by grind) (by grind)
  obtain ⟨s1, s2⟩ := prod_exact x3 y1 (by grind) (by grind)
  have hp : p2 (-((i + j : Nat) : Int)) = p2 (-(i : Int)) * p2 (-(j : Int)) := by rw [← p2_add]; congr 1; omega
  have bnd : ∀ {u v : Int}, u.natAbs < 2 ^ 11 → v.natAbs < 2 ^ 11 → (u * v).natAbs < 2 ^ 22 := by
    intro u v h1 h2
    rw [Int.natAbs_mul]
    exact Nat.lt_of_lt_of_le (Nat.mul_lt_mul_of_lt_of_lt h1 h2) (by decide)
  have n1 : (a * c - b * d).natAbs < 2 ^ 24 := by have := bnd ha hc; have := bnd hb hd; omega
  have n2 : (a * d + b * c).natAbs < 2 ^ 24 := by have := bnd ha hd; have := bnd hb hc; omega
  have e1' : vN .f32 x.1 * vN .f32 y.1 - vN .f32 x.2 * vN .f32 y.2 = ((a * c - b * d : Int) : Rat) * p2 (-((i + j : Nat) : Int)) := by
    rw [x2, x4, y2, y4, hp, Rat.intCast_sub, Rat.intCast_mul, Rat.intCast_mul]; grind
  have e2' : vN .f32 x.1 * vN .f32 y.2 + vN .f32 x.2 * vN .f32 y.1 = ((a * d + b * c : Int) : Rat) * p2 (-((i + j : Nat) : Int)) := by
    rw [x2, x4, y2, y4, hp, Rat.intCast_add, Rat.intCast_mul, Rat.intCast_mul]; grind
  obtain ⟨f1, g1, h1⟩ := (part_exact p1 p2' q1 q2 n1 hij).2 e1'
  obtain ⟨f2, g2, h2⟩ := (part_exact r1 r2 s1 s2 n2 hij).1 e2'
  exact ⟨⟨f1, f2⟩, ⟨g1, g2⟩, q2e (h1.trans e1') (h2.trans e2')⟩
theorem Gr.sub {x y : C2} {a b c d : Int} {j : Nat} (hx : Gr x a b j) (hy : Gr y c d j) (ha : (a - c).natAbs < 2 ^ 24) (hb : (b - d).natAbs < 2 ^ 24) (hj : j ≤ 100) : Gr (subC x y) (a - c) (b - d) j := by
  obtain ⟨⟨x1, x2⟩, x3, x4⟩ := hx.parts
  obtain ⟨⟨y1, y2⟩, y3, y4⟩ := hy.parts
  have h25 : p2 ((24 : Nat) : Int) ≤ p2 127 := p2_mono (by decide)
  have e1' : vN .f32 x.1 - vN .f32 y.1 = ((a - c : Int) : Rat) * p2 (-(j : Int)) := by rw [x2, y2, Rat.intCast_sub]; grind
  have e2' : vN .f32 x.2 - vN .f32 y.2 = ((b - d : Int) : Rat) * p2 (-(j : Int)) := by rw [x4, y4, Rat.intCast_sub]; grind
  have l1 := dy_lt (j := j) ha
  have l2 := dy_lt (j := j) hb
  have R1 := fop_sub_res (k := .f32) x1 y1 (by rw [e1']; show _ < p2 127; grind)
  have R2 := fop_sub_res (k := .f32) x3 y3 (by rw [e2']; show _ < p2 127; grind)
  exact ⟨⟨R1.1, R2.1⟩, q2e ((exact32 R1 e1' ha hj).trans e1') ((exact32 R2 e2' hb hj).trans e2')⟩
theorem Gr.lift {w : C2} {a b : Int} {j : Nat} (h : Gr w a b j) (k : Nat) : Gr w (a * 2 ^ k) (b * 2 ^ k) (j + k) := by
  refine ⟨h.1, ?_⟩
  rw [h.2]
  have hp : p2 (-(j : Int)) = ((2 ^ k : Nat) : Rat) * p2 (-((j + k : Nat) : Int)) := by rw [← p2_nat, ← p2_add]; congr 1; omega
  have hk : (((2 : Int) ^ k : Int) : Rat) = ((2 ^ k : Nat) : Rat) := by rw [← Rat.intCast_natCast]; congr 1
  rw [hp]
  exact q2e (by show (a : Rat) * _ = ((a * 2 ^ k : Int) : Rat) * _; rw [Rat.intCast_mul, hk]; grind) (by show (b : Rat) * _ = ((b * 2 ^ k : Int) : Rat) * _; rw [Rat.intCast_mul, hk]; grind)
theorem Gr.zero (j : Nat) : Gr (0, 0) 0 0 j := by
  have h0 : FloatKind.f32.decode 0 = .number false 0 (-149) := by decide +kernel
  have h2 : vN .f32 0 = 0 := by unfold vN; rw [h0]; decide +kernel
  refine ⟨fC0.1, q2e ?_ ?_⟩
  · show vN .f32 0 = ((0 : Int) : Rat) * _; rw [h2, show ((0 : Int) : Rat) = 0 from rfl]; try grind
  · show vN .f32 0 = ((0 : Int) : Rat) * _; rw [h2, show ((0 : Int) : Rat) = 0 from rfl]; try grind
theorem Gr.one : Gr (nc (1065353216, 0)) 1 0 0 := by
  have h1 : nc (1065353216, 0) = (1065353216, 0) := by decide +kernel
  have hd : FloatKind.f32.decode 1065353216 = .number false 8388608 (-23) := by decide +kernel
  rw [h1]
  refine ⟨⟨by unfold fN; rw [hd]; rfl, fC0.1.2⟩, q2e ?_ ?_⟩
  · show vN .f32 1065353216 = _; unfold vN; rw [hd]; decide +kernel
  · have := congrArg Q2.im (Gr.zero 0).2
    exact this
theorem Gr.cast {w : C2} {a b c d : Int} {j : Nat} (h : Gr w a b j) (h1 : a = c) (h2 : b = d) : Gr w c d j := by subst h1 h2; exact h
theorem Gr.zero_to {w : C2} {j : Nat} (h : Gr w 0 0 j) (i : Nat) : Gr w 0 0 i := by
  refine ⟨h.1, h.2.trans (q2e ?_ ?_)⟩ <;> (show ((0 : Int) : Rat) * _ = ((0 : Int) : Rat) * _; rw [show ((0 : Int) : Rat) = 0 from rfl]; try grind)
end Go.Proofs.YtdnoilcfgicnnaaGreat

/- Numbers of few bits, drawn roots. Conditions: as told. -/
namespace Go.Proofs.YtdnoilcfgicnnaaGreat
open Go
set_option linter.unusedSimpArgs false
set_option linter.unusedVariables false

theorem nS_pure {sx sy : Int} {N1 : Nat} (f : Rat) (hf : 0 ≤ f) (h : (N1 : Int) = sx.natAbs + sy.natAbs) : N (⟨(sx : Rat) * f, (sy : Rat) * f⟩ : Q2) = (N1 : Rat) * f := by
  show A ((sx : Rat) * f) + A ((sy : Rat) * f) = _
  rw [A_intm _ hf, A_intm _ hf]
  have : (N1 : Rat) = ((sx.natAbs : Nat) : Rat) + ((sy.natAbs : Nat) : Rat) := by rw [← Rat.natCast_add]; congr 1; omega
  rw [this]; grind
theorem gr_norm {w : C2} {a b : Int} {j n : Nat} (h : Gr w a b j) (hn : (n : Int) = a.natAbs + b.natAbs) : N (cv w) = (n : Rat) * p2 (-(j : Int)) := by
  rw [h.2]
  exact nS_pure _ (Rat.le_of_lt (p2_pos _)) hn
theorem gr_le {w : C2} {a b : Int} {j : Nat} {q : Rat} (h : Gr w a b j) (n : Nat) (hn : a.natAbs + b.natAbs ≤ n) (hq : (n : Rat) * p2 (-(j : Int)) ≤ q) : N (cv w) ≤ q := by
  rw [gr_norm (n := a.natAbs + b.natAbs) h (by omega)]
  exact nat_le_q hn (Rat.le_of_lt (p2_pos _)) hq
theorem gr_one {w : C2} (h : Gr w 1 0 0) : cv w = one2 := h.2.trans (q2e (by decide +kernel) (by decide +kernel))
theorem poly_full {F : List C2} {w : C2} (hl : 1 < F.length) (hf : F.all finC = true) (hw : F.getD (F.length - 1) (0, 0) = w) (h1 : Gr w 1 0 0) : polyF F = (F, true) ∧ rootedF F = true := by
  have hz : zeroC (F.getD (F.length - 1) (0, 0)) = false := by rw [hw]; exact not_zeroC h1.1 (by rw [gr_one h1]; decide)
  obtain ⟨a, b⟩ := poly_of hl hf hz
  refine ⟨b, ?_⟩
  unfold rootedF
  rw [a]; simp; omega
theorem finG {w : C2} {a b : Int} {j : Nat} (h : Gr w a b j) : finC w = true := (fC_iff w).1 h.1
/-- Distances fit. -/
theorem dist_fit {a x : C2} (ha : fC a) (hx : fC x) (na : N (cv a) ≤ p2 41) (nx : N (cv x) ≤ p2 41) : fit1 (sqF (powerF (subC a x))) := by
  have h1 := N_sub (cv a) (cv x)
  have h2 : p2 41 + p2 41 = p2 42 := p2_two 41
  have h3 : N (cv a - cv x) ≤ p2 42 := by grind
  have hn := subC_near ha hx (lt_of_p2 h3 (by decide))
  have g := hn.2
  have t1 := N_tri (cv (subC a x)) (cv a - cv x)
  have u14 : u1 ≤ 1 := by decide +kernel
  have e14 : e1 ≤ 1 := by decide +kernel
  have u5 := Rat.mul_le_mul_of_nonneg_right u14 (N_nonneg (cv a - cv x))
  have h4 : p2 42 + (p2 42 + 1) ≤ p2 44 := by decide +kernel
  have h5 : N (cv (subC a x)) ≤ p2 44 := by
    generalize u1 = u at *
    generalize e1 = e at *
    generalize p2 42 = c at *
    generalize p2 44 = d at *
    clear h1 h2 na nx hn
    grind
  obtain ⟨w1, w2⟩ := powerF_ok hn.1 (lt_of_p2 h5 (by decide))
  refine sqF_fit w1 ?_
  have k1 := sqN_le (cv (subC a x))
  have k2 := mul_le h5 h5 (N_nonneg _) (Rat.le_of_lt (p2_pos 44))
  rw [← p2_add] at k2
  have k3 := sqN_nonneg (cv (subC a x))
  rw [A_of_nonneg k3] at w2
  have t2 := A_add (vN .f64 (powerF (subC a x)) - sqN (cv (subC a x))) (sqN (cv (subC a x)))
  rw [show vN .f64 (powerF (subC a x)) - sqN (cv (subC a x)) + sqN (cv (subC a x)) = vN .f64 (powerF (subC a x)) by grind, A_of_nonneg k3] at t2
  have m1 : p2 (-53) ≤ 1 := p2_small (by decide)
  have m2 : p2 (-1075) ≤ 1 := p2_small (by decide)
  have m3 := Rat.mul_le_mul_of_nonneg_right m1 k3
  have m4 : p2 (44 + 44) + (p2 (44 + 44) + 1) ≤ p2 90 := by decide +kernel
  generalize p2 (44 + 44) = c at *
  generalize p2 90 = d at *
  generalize p2 (-53) = f at *
  generalize p2 (-1075) = g at *
  clear h1 h2 h3 h4 h5 hn t1 u5 na nx
  grind
/-- Root k, as it is drawn. -/
def DR (w : C2) (k : Nat) : Prop := ∃ x y : Int, Gr w x y 3 ∧ 8 * (k : Int) - 12 ≤ x ∧ x ≤ 8 * (k : Int) - 8 ∧ -8 ≤ y ∧ y ≤ 8
theorem DR.small {w : C2} {k : Nat} (h : DR w k) (hk : k < 6) : fC w ∧ N (cv w) ≤ p2 41 := by
  obtain ⟨x, y, g, a, b, c, d⟩ := h
  exact ⟨g.1, gr_le g 48 (by omega) (by decide +kernel)⟩
end Go.Proofs.YtdnoilcfgicnnaaGreat

/- The roots that are drawn. Conditions: bytes; at most 6 roots. -/
namespace Go.Proofs.YtdnoilcfgicnnaaGreat
set_option linter.unusedSimpArgs false
set_option linter.unusedVariables false
open Go Go.RowKit

theorem Only.grown {g : Nat} {w w' : World} (h : Only g (g + 1) w w') : w.grownBy w' (some g) := ⟨h.os, h.tape, h.output, h.size, fun k hk hne => h.block k hk (by
  have : k ≠ g := fun e => hne (by rw [e])
  omega)⟩

def reW (k a : Nat) : Nat := fop .sub .f32 (fop .add .f32 (nrm .f32 (floatOfInt .f32 (k : Int))) (fop .quo .f32 (nrm .f32 (floatOfInt .f32 (a : Int))) (nrm .f32 1090519040))) (nrm .f32 1069547520)
def imW (b : Nat) : Nat := fop .quo .f32 (nrm .f32 (floatOfInt .f32 ((b : Int) - 8))) (nrm .f32 1090519040)
theorem reW_ok : ∀ k, k < 6 → ∀ a, a < 5 → fN .f32 (reW k a) = true ∧ vN .f32 (reW k a) = ((8 * (k : Int) - 12 + (a : Int) : Int) : Rat) * p2 (-3) := by decide +kernel
theorem imW_ok : ∀ b, b < 17 → fN .f32 (imW b) = true ∧ vN .f32 (imW b) = (((b : Int) - 8 : Int) : Rat) * p2 (-3) := by decide +kernel
theorem drawn_DR {k a b x y : Nat} (hk : k < 6) (ha : a < 5) (hb : b < 17) (hx : nrm .f32 x = reW k a) (hy : nrm .f32 y = imW b) : DR (nc (x, y)) k := by
  obtain ⟨x1, x2⟩ := reW_ok k hk a ha
  obtain ⟨y1, y2⟩ := imW_ok b hb
  refine ⟨8 * (k : Int) - 12 + (a : Int), (b : Int) - 8, ⟨⟨?_, ?_⟩, ?_⟩, by omega, by omega, by omega, by omega⟩
  · show fN .f32 (nrm .f32 x) = true; rw [hx]; exact x1
  · show fN .f32 (nrm .f32 y) = true; rw [hy]; exact y1
  · exact q2e (show vN .f32 (nrm .f32 x) = ((8 * (k : Int) - 12 + (a : Int) : Int) : Rat) * p2 (-3) by rw [hx, x2]) (show vN .f32 (nrm .f32 y) = (((b : Int) - 8 : Int) : Rat) * p2 (-3) by rw [hy, y2])

set_option maxRecDepth 100000 in
set_option maxHeartbeats 4000000 in
theorem b10Roots_spec (v : Value) (zs : List Int) (n : Nat) (w : World) (hv : RdB w v zs) (hl : zs.length ≤ 1048576) (hn : n ≤ 6) :
    Calls Tryz.prog 6 #[v, .int .i64 n] w fun e w' => ∃ v' ls, e = .returned v' ∧ ls.length = n ∧ (∀ k, k < n → DR (nc (ls.getD k (0, 0))) k) ∧ OwV 36 w' w.heap.size v' (cx ls) ∧ Below w.heap.size w w' := by
  have Hv := Lib.hid hv
  have HB := Lib.hid (fun hn => hv.blk hn)
  obtain ⟨ao, cap, rfl⟩ := hv.shape
  clear hv
  go_enter Tryz.func6, Tryz.ntmps6
  go_wp2_with fail
  refine (from_spec _ zs _ Hv.out hl).mono ?_
  rintro e w1 ⟨rfl, hs1, hb1⟩
  have hg1 : w.heap.size < w1.heap.size := World.block_lt_of_cell? _ _ hs1.1
  generalize hG : w.heap.size = G at *
  have Hs1 := Lib.hid hs1
  have Hb1 := Lib.hid hb1
  clear hs1 hb1 Hv
  go_wp2_with fail
  go_loopw [6, 7] (fun ov kv wr => ∃ (k kk : Nat) (ls : List C2), k ≤ n ∧ kv = .int .i64 k ∧ kk ≤ 4 * k ∧ RowV 36 wr w1.heap.size ov (cx ls) ∧ ls.length = k ∧ (∀ i, i < k → DR (nc (ls.getD i (0, 0))) i) ∧ SrcI wr G (.slice ao zs.length cap) zs kk ∧ Below G w wr ∧ w1.heap.size ≤ wr.heap.size) (fun _ kv _ => n - (intOf kv).toNat)
  case atStart =>
    refine ⟨0, 0, [], Nat.zero_le _, rfl, Nat.le_refl _, row_nil (Nat.le_refl _) _, rfl, fun i hi => absurd hi (by omega), ?_, Hb1.out.alloc (by omega) _, by simp⟩
    exact Hs1.out.below ((Below.refl _ _).alloc (Nat.le_refl _) _)
  case round =>
    obtain ⟨k, kk, ls, hk, rfl, hkk, hrow, hls, hD, hs, hb, hW1⟩ := hrel
    by_cases hlt : k < n
    · have Hs := Lib.hid hs
      have Hrow := Lib.hid hrow
      have Hb := Lib.hid hb
      have HD := Lib.hid hD
      have HLS := Lib.hid hls
      clear hs hrow hb hD hls Hs1 Hb1
      have j1 : (k : Int) < (n : Int) := by omega
      go_wp2_with fail
      (go_at_call 23; ((with_reducible refine (pick_spec G _ zs kk 5 _ Hs.out (by omega) (by omega) (by omega)).mono ?_); rintro e w2 ⟨z, k2, rfl, hz0, hz1, hk1, hk2, hs2, ho2⟩))
      obtain ⟨a, rfl⟩ := Int.eq_ofNat_of_zero_le hz0
      have Hs2 := Lib.hid hs2
      have Hrow2 := Lib.hid (show RowV 36 w2 w1.heap.size _ _ from World.ownsRow.kept Hrow.out ho2.grown (by
        cases hq : Value.ownBlock _ with
        | none => exact .inl rfl
        | some q => right; intro e; cases e; have := (RowV.lt Hrow.out) _ hq; omega))
      have Hb2 := Lib.hid (Hb.out.trans (ho2.toBelow (Nat.le_refl _) (by have := Hb.out.size; omega)))
      have ha5 : a < 5 := by omega
      have HW2 := Lib.hid (show w1.heap.size ≤ w2.heap.size from Nat.le_trans hW1 ho2.size)
      clear hs2 ho2 hz0 hz1
      go_wp2_with (with_reducible refine wpList_fop rfl _ _ _ _ _ rfl rfl .f32 _ _ rfl rfl ?_; intro r m hr; (first | (have _t := HQ1; first | (have _t2 := HQ2; have HQ3 := Lib.hid hr) | have HQ2 := Lib.hid hr) | have HQ1 := Lib.hid hr))
      have HRE := Lib.hid (show nrm .f32 r = reW k a by rw [HQ3.out, HQ2.out, HQ1.out]; rfl)
      clear HQ1 HQ2 HQ3 hr
      have Hs3 := Lib.hid (fun mm => Hs2.out.below (drewN_below w2 mm))
      have Hrow3 := Lib.hid (fun mm => Hrow2.out.below (drewN_below w2 mm))
      have Hb3 := Lib.hid (fun mm => below_drewN Hb2.out mm)
      clear Hs2 Hrow2
      have hG2 : G ≤ w2.heap.size := by have := Hb2.out.size; omega
      have hW2 : w1.heap.size ≤ w2.heap.size := HW2.out
      (go_at_call 23; ((with_reducible refine (pick_spec G _ zs k2 17 _ (Hs3.out _) (by omega) (by omega) (by omega)).mono ?_); rintro e w3 ⟨z, k3, rfl, hz0, hz1, hk3, hk4, hs3, ho3⟩))
      obtain ⟨b, rfl⟩ := Int.eq_ofNat_of_zero_le hz0
      have Hs4 := Lib.hid hs3
      have Hrow4 := Lib.hid (show RowV 36 w3 w1.heap.size _ _ from World.ownsRow.kept (Hrow3.out _) ho3.grown (by
        cases hq : Value.ownBlock _ with
        | none => exact .inl rfl
        | some q => right; intro e; cases e; have := (RowV.lt (Hrow3.out 0)) _ hq; omega))
      have Hb4 := Lib.hid ((Hb3.out _).trans (ho3.toBelow (Nat.le_refl _) (by simpa using hG2)))
      have hb17 : b < 17 := by omega
      have q8 : IntKind.i64.wrap ((b : Int) - 8) = (b : Int) - 8 := IntWalk.i64_in _ ⟨by omega, by omega⟩
      have hsz3 : w1.heap.size ≤ w3.heap.size ∧ G ≤ w3.heap.size := by
        have h2 := ho3.size
        simp at h2
        omega
      clear hs3 ho3 hz0 hz1 Hs3 Hrow3 Hb3 Hs Hrow Hb Hb2
      have Hl := Lib.hid (show (cx ls).length ≤ 1099511627776 by rw [cx_length, HLS.out]; omega)
      go_wp2_with (first | (with_reducible refine wpList_fop rfl _ _ _ _ _ rfl rfl .f32 _ _ rfl rfl ?_; intro ri m hri; have HIM := Lib.hid hri; clear hri) |
        (at_builtin; go_must (refine wpList_pushV (.complex .f32 0 0) 8 Hrow4.out infoC rfl rfl (by decide) rfl _ _ rfl Tryz.underlying25 Hl.out hsz3.1 rfl rfl rfl rfl rfl rfl ?_); intro v1 w4 hr1 hb5 hg5 ho5))
      have HN := Lib.hid (show DR (nc (r, ri)) k from drawn_DR (by omega) ha5 hb17 HRE.out HIM.out)
      have Hs5 := Lib.hid (SrcI.belowB Hs4.out hb5 (by omega) (fun p n c hz h => by have := HB.out hz p n c h; omega))
      go_roundw
      case rel =>
        refine ⟨k + 1, k3, ls ++ [(r, ri)], by omega, by go_num, by omega, by rw [← cx_push]; exact hr1, by rw [List.length_append, HLS.out]; rfl, ?_, Hs5.out, Hb4.out.trans (hb5.mono (by omega)), Nat.le_trans hsz3.1 hb5.size⟩
        intro i hi
        have hL := HLS.out
        by_cases hik : i < k
        · have : (ls ++ [(r, ri)]).getD i (0, 0) = ls.getD i (0, 0) := by simp only [List.getD]; rw [List.getElem?_append_left (by omega)]
          rw [this]; exact HD.out i hik
        · obtain rfl : i = k := by omega
          have : (ls ++ [(r, ri)]).getD i (0, 0) = (r, ri) := by simp only [List.getD]; rw [List.getElem?_append_right (by omega), hL]; simp
          rw [this]; exact HN.out
      case measure => simp [intOf]; omega
    · obtain rfl : k = n := by omega
      have Hr := Lib.hid (hrow.own.mono (show G ≤ w1.heap.size by omega))
      have Hb := Lib.hid hb
      clear hrow hb hs
      go_wp2_with fail
      refine bodyPost_ret (by simp [results, Tryz.results6, go_sem]; try rfl) rfl ?_
      exact ⟨_, ls, rfl, hls, hD, by rw [hG]; exact Hr.out, by rw [hG]; exact Hb.out⟩

end Go.Proofs.YtdnoilcfgicnnaaGreat
