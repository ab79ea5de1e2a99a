/- Polynomials of degree one, and of degree two whose second term has no part 0: a Newton step is safe and keeps the norm at most 2 ^ 41. Conditions: terms as small as those of the drawn roots. -/
import Derived.Test.YtalfkkagbajjcaaZ10
namespace Go.Proofs.Ytalfkkagbajjcaa
set_option linter.unusedSimpArgs false
set_option linter.unusedVariables false
open Go

def quaV (z B C : Q2) : Q2 := (one2 * z + B) * z + C
def quaS (z B : Q2) : Q2 := two2 * z + B
theorem N_two (x : Q2) : N (x + x) = 2 * N x := by
  have e2 : ∀ x : Rat, A (x + x) = 2 * A x := fun x => by rw [show x + x = 2 * x by grind, A_mul]; congr 1
  unfold N
  rw [show (x + x).re = x.re + x.re from rfl, show (x + x).im = x.im + x.im from rfl, e2, e2]; grind
theorem quaS_ge {z B : Q2} (nB : N B ≤ 4) : 2 * N z - 4 ≤ N (quaS z B) := by
  have e : quaS z B - B = z + z := q2e (by simp [quaS, two2]; grind) (by simp [quaS, two2]; grind)
  have h2 := N_sub (quaS z B) B
  rw [e, N_two] at h2
  grind
theorem quaV_le {z B C : Q2} {r b c : Rat} (hr : N z ≤ r) (nB : N B ≤ b) (nC : N C ≤ c) : N (quaV z B C) ≤ (r + b) * r + c := by
  have n0 := N_nonneg z
  have e : one2 * z = z := q2e (by simp [one2]; grind) (by simp [one2]; grind)
  unfold quaV
  rw [e]
  have h1 := N_add z B
  have h2 := N_mul (z + B) z
  have h3 := mul_le (show N (z + B) ≤ r + b by grind) hr n0 (by have := N_nonneg B; grind)
  have h4 := N_add ((z + B) * z) C
  grind

theorem quaA_pure {z B C v s q : Q2} (nB : N B ≤ 4) (nC : N C ≤ 4)
    (hv : N (v - quaV z B C) ≤ 1 / 8388608 * (4 * (N z * N z) + 12 * N z + 4) + 1 / 1000)
    (hs : N (s - quaS z B) ≤ 1 / 8388608 * (4 * N z + 4) + 1 / 1000)
    (hq : q * s = v) (hs0 : 15 / 16 * (1 / 1073741824) ≤ N s) (hz : N z ≤ 2199023255552) :
    N q ≤ 4398046511104 ∧ N (z - q) + 1 / 8388608 * (2 * N q + N (z - q)) + 1 / 1000 ≤ 2199023255552 := by
  have r0 := N_nonneg z
  have hV := quaV_le (Rat.le_refl (a := N z)) nB nC
  have hS := quaS_ge (z := z) nB
  have t1 := N_tri v (quaV z B C)
  have t2 := N_sub s (s - quaS z B)
  rw [show s - (s - quaS z B) = quaS z B from q2e (by simp; grind) (by simp; grind)] at t2
  have k1 := quo_le hq
  have q0 := N_nonneg q
  have d1 := N_sub z q
  generalize hr : N z = r at *
  rcases Rat.le_total (a := r) (b := 16) with h8 | h8
  · have r2 : r * r ≤ 256 := by have := mul_le h8 h8 r0 (by decide +kernel); grind
    have hv2 : N v ≤ 325 := by grind
    have k2 := Rat.mul_le_mul_of_nonneg_left hs0 q0
    have hq1 : N q ≤ 800000000000 := by
      refine lcancel_le (show (0 : Rat) < 15 / 16 * (1 / 1073741824) by decide +kernel) ?_
      have : (650 : Rat) ≤ 800000000000 * (15 / 16 * (1 / 1073741824)) := by decide +kernel
      grind
    constructor
    · grind
    · grind
  · have r2 : 16 * r ≤ r * r := Rat.mul_le_mul_of_nonneg_right h8 r0
    have hs2 : 3 / 2 * r ≤ N s := by grind
    have key : ((z - q) + (z - q) - z) * s = (s - quaS z B) * z - ((v - quaV z B C) + (v - quaV z B C)) - (B * z + (C + C)) := by
      rw [← hq]
      exact q2e (by simp [quaS, quaV, one2, two2]; grind) (by simp [quaS, quaV, one2, two2]; grind)
    have k2 := quo_le key
    have x1 := N_sub ((s - quaS z B) * z - ((v - quaV z B C) + (v - quaV z B C))) (B * z + (C + C))
    have x2 := N_sub ((s - quaS z B) * z) ((v - quaV z B C) + (v - quaV z B C))
    have x3 := N_mul (s - quaS z B) z
    rw [hr] at x3
    have x5 := N_two (v - quaV z B C)
    have x6 := N_add (B * z) (C + C)
    have x8 := N_mul B z
    rw [hr] at x8
    have y4 := N_two C
    have y6 := Rat.mul_le_mul_of_nonneg_right nB r0
    have y7 := Rat.mul_le_mul_of_nonneg_right hs r0
    have hX : N ((s - quaS z B) * z - ((v - quaV z B C) + (v - quaV z B C)) - (B * z + (C + C))) ≤ (1 / 131072 * r + 5) * r := by
      clear key k2
      generalize N ((s - quaS z B) * z - ((v - quaV z B C) + (v - quaV z B C)) - (B * z + (C + C))) = a0 at *
      generalize N ((s - quaS z B) * z - ((v - quaV z B C) + (v - quaV z B C))) = a1 at *
      generalize N (B * z + (C + C)) = a2 at *
      generalize N ((s - quaS z B) * z) = a3 at *
      generalize N ((v - quaV z B C) + (v - quaV z B C)) = a5 at *
      generalize N (v - quaV z B C) = a6 at *
      generalize N (s - quaS z B) = a8 at *
      grind
    have k3 := N_nonneg ((z - q) + (z - q) - z)
    have k4 := Rat.mul_le_mul_of_nonneg_left hs2 k3
    have hp : 0 < r := by grind
    have k5 : N ((z - q) + (z - q) - z) ≤ 4 / 3 * (1 / 131072 * r + 5) := by
      refine lcancel_le hp ?_
      grind
    have k6 : 2 * N (z - q) ≤ r + N ((z - q) + (z - q) - z) := by
      have h4 := N_tri ((z - q) + (z - q)) z
      rw [N_two, hr] at h4
      grind
    have k7 : N (z - q) ≤ 3 / 4 * r := by grind
    have k8 := N_sub z (z - q)
    rw [show z - (z - q) = q from q2e (by simp; grind) (by simp; grind), hr] at k8
    clear key k2 x1 x2 x3 x5 x6 x8 y4 y6 y7 hX k3 k4 k5 k6
    constructor
    · grind
    · grind

section
variable {C B L z : C2}
theorem quaA (hC : fC C) (hB : fC B) (hL : fC L) (h1 : cv L = one2) (nB : N (cv B) ≤ 4) (nC : N (cv C) ≤ 4) (gr : p2 (-6) ≤ A (cv B).re) (gi : p2 (-6) ≤ A (cv B).im)
    (hz : fC z) (bz : N (cv z) ≤ p2 41) :
    safeStep [C, B, L] z ∧ ((stepF [C, B, L] z).2 = true → fC (stepF [C, B, L] z).1 ∧ N (cv (stepF [C, B, L] z).1) ≤ p2 41) := by
  have m1 : (12 : Rat) < p2 100 := by decide +kernel
  obtain ⟨hr, hv, B', L', hS, hSv, hB', hL', eB, eL⟩ := slope3 hC hB hL h1 (by grind)
  have nB' : N (cv B') ≤ 4 := by rw [eB]; exact nB
  have no : N one2 ≤ 1 := by decide +kernel
  have nt : N two2 ≤ 2 := by decide +kernel
  obtain ⟨s1, H1⟩ := eval3 hz (Rat.le_refl) bz hL h1 no (by decide +kernel) hB nB (by decide +kernel) hC nC (by decide +kernel)
  obtain ⟨s2, H2⟩ := eval2 hz (Rat.le_refl) bz hL' eL nt (by decide +kernel) hB' nB' (by decide +kernel)
  have q41 : p2 41 = 2199023255552 := by decide +kernel
  have q42 : p2 42 = 4398046511104 := by decide +kernel
  have q126 : (100000000000000000000000000000 : Rat) ≤ p2 126 := by decide +kernel
  have q100 : (100000000000000 : Rat) ≤ p2 100 := by decide +kernel
  have r0 := N_nonneg (cv z)
  have bz' := bz
  rw [q41] at bz
  have hUb : Ub ≤ 1 / 8388608 := by decide +kernel
  have hUa : Ua ≤ 1 / 8388608 := by decide +kernel
  have r2 := mul_le bz bz r0 (by decide +kernel)
  have rr0 := Rat.mul_nonneg r0 r0
  have hv1 : N (cv (nestedF [C, B, L] z) - quaV (cv z) (cv B) (cv C)) ≤ 1 / 8388608 * (4 * (N (cv z) * N (cv z)) + 12 * N (cv z) + 4) + 1 / 1000 := by
    have a1 := H1.err
    have a2 := Rat.mul_le_mul_of_nonneg_right hUb H1.P0
    have a3 : 6 * (e1 * 2199023255552) + 3 * e1 ≤ 1 / 1000 := by decide +kernel
    have a5 := Rat.mul_le_mul_of_nonneg_left bz (Rat.le_of_lt e1_pos)
    have a4 : quaV (cv z) (cv B) (cv C) = (one2 * cv z + cv B) * cv z + cv C := rfl
    rw [a4]
    generalize Ub = U at *
    generalize e1 = t at *
    grind
  have hs1 : N (cv (nestedF [B', L'] z) - quaS (cv z) (cv B)) ≤ 1 / 8388608 * (4 * N (cv z) + 4) + 1 / 1000 := by
    have a1 := H2.err
    have a2 := Rat.mul_le_mul_of_nonneg_right hUa H2.P0
    have a3 : 3 * e1 ≤ 1 / 1000 := by decide +kernel
    have a4 : quaS (cv z) (cv B) = two2 * cv z + cv B' := by rw [eB]; rfl
    rw [a4]
    generalize Ua = U at *
    generalize e1 = t at *
    grind
  have fv := H1.f
  have fs := H2.f
  have bv : N (cv (nestedF [C, B, L] z)) < p2 126 := by
    have a1 := H1.le
    have a2 := N_tri (cv (nestedF [C, B, L] z)) (quaV (cv z) (cv B) (cv C))
    have a4 : quaV (cv z) (cv B) (cv C) = (one2 * cv z + cv B) * cv z + cv C := rfl
    rw [← a4] at a1
    grind
  have bs : N (cv (nestedF [B', L'] z)) < p2 100 := by
    have a1 := H2.le
    have a2 := N_tri (cv (nestedF [B', L'] z)) (quaS (cv z) (cv B))
    have a4 : quaS (cv z) (cv B) = two2 * cv z + cv B' := by rw [eB]; rfl
    rw [← a4] at a1
    grind
  have hg : N (cv (nestedF [B', L'] z)) = 0 ∨ 15 / 16 * p2 (-30) ≤ N (cv (nestedF [B', L'] z)) := by
    rw [nested2]
    have a7 := N_mul (cv L') (cv z)
    have a6 : N (cv L') ≤ 2 := by rw [eL]; exact nt
    have a8 := mul_le a6 bz r0 (by decide +kernel)
    have q200 : (20000000000000 : Rat) < p2 200 := by decide +kernel
    have q126' : (20000000000000 * 2 + 100 : Rat) ≤ p2 126 := by decide +kernel
    have q127 : (p2 126 : Rat) ≤ p2 127 := by decide +kernel
    have u14 : u1 ≤ 1 := by decide +kernel
    have e14 : e1 ≤ 1 := by decide +kernel
    obtain ⟨_, g2⟩ := mulC_near hL' hz (by grind) (by grind) (by grind)
    have a9 := g2.2
    have b1 := N_tri (cv (mulC L' z)) (cv L' * cv z)
    have b2 := Rat.mul_le_mul_of_nonneg_right u14 (N_nonneg (cv L' * cv z))
    have b3 := N_add (cv (mulC L' z)) (cv B')
    refine addC_grain g2.1 hB' (by rw [eB]; exact gr) (by rw [eB]; exact gi) ?_
    show N (cv (mulC L' z) + cv B') < p2 127
    generalize u1 = u at *
    generalize e1 = t at *
    grind
  rcases hg with hg | hg
  · obtain ⟨k1, k2⟩ := step_zero hr hv hS hSv hz fv fs s1 s2 bv hg
    exact ⟨k1, fun h => by rw [k2 h]; exact ⟨hz, bz'⟩⟩
  · have hs0 : 15 / 16 * (1 / 1073741824) ≤ N (cv (nestedF [B', L'] z)) := by
      have : p2 (-30) = 1 / 1073741824 := by decide +kernel
      rw [← this]; exact hg
    have hspos : 0 < N (cv (nestedF [B', L'] z)) := by
      have : (0 : Rat) < 15 / 16 * (1 / 1073741824) := by decide +kernel
      grind
    obtain ⟨q, hq⟩ := quo_ex (cv (nestedF [C, B, L] z)) hspos
    obtain ⟨k1, k2⟩ := quaA_pure nB nC hv1 hs1 hq hs0 bz
    have q40 : p2 (-40) ≤ 15 / 16 * (1 / 1073741824) := by decide +kernel
    obtain ⟨k3, z', k4, k5, k6⟩ := step_res hr hv hS hSv hz fv fs s1 s2 bv bs (by grind) bz' hq (by rw [q42]; exact k1)
    refine ⟨k3, fun _ => ?_⟩
    rw [k4]
    refine ⟨k5, ?_⟩
    show N (cv z') ≤ p2 41
    rw [q41]
    have a1 := N_tri (cv z') (cv z - q)
    have a2 : u1 ≤ 1 / 8388608 := by decide +kernel
    have a3 : 3 * e1 ≤ 1 / 1000 := by decide +kernel
    have a4 := Rat.mul_le_mul_of_nonneg_right a2 (show 0 ≤ 2 * N q + N (cv z - q) by have := N_nonneg q; have := N_nonneg (cv z - q); grind)
    generalize u1 = u at *
    generalize e1 = t at *
    grind

theorem linA (hB : fC B) (hL : fC L) (h1 : cv L = one2) (nB : N (cv B) ≤ 4) (hz : fC z) (bz : N (cv z) ≤ p2 41) :
    safeStep [B, L] z ∧ ((stepF [B, L] z).2 = true → fC (stepF [B, L] z).1 ∧ N (cv (stepF [B, L] z).1) ≤ p2 41) := by
  obtain ⟨hr, hv, L', hS, hSv, hL', eL⟩ := slope2 hB hL h1
  have no : N one2 ≤ 1 := by decide +kernel
  obtain ⟨s1, H1⟩ := eval2 hz (Rat.le_refl) bz hL h1 no (by decide +kernel) hB nB (by decide +kernel)
  have q41 : p2 41 = 2199023255552 := by decide +kernel
  have q42 : p2 42 = 4398046511104 := by decide +kernel
  have r0 := N_nonneg (cv z)
  have bz' := bz
  rw [q41] at bz
  have hUa : Ua ≤ 1 / 8388608 := by decide +kernel
  have e0 : one2 * cv z = cv z := q2e (by simp [one2]; grind) (by simp [one2]; grind)
  have a1 := H1.err
  have a2 := Rat.mul_le_mul_of_nonneg_right hUa H1.P0
  have a3 : 3 * e1 ≤ 1 / 1000 := by decide +kernel
  rw [e0] at a1
  have hv1 : N (cv (nestedF [B, L] z) - (cv z + cv B)) ≤ 1 / 8388608 * (2 * N (cv z) + 4) + 1 / 1000 := by
    generalize Ua = U at *
    generalize e1 = t at *
    grind
  clear a1 a2
  have fs : fC (nestedF [L'] z) := hL'
  have es : cv (nestedF [L'] z) = one2 := eL
  have hq : cv (nestedF [B, L] z) * cv (nestedF [L'] z) = cv (nestedF [B, L] z) := by rw [es]; exact q2e (by simp [one2]; grind) (by simp [one2]; grind)
  have b1 := N_tri (cv (nestedF [B, L] z)) (cv z + cv B)
  have b2 := N_add (cv z) (cv B)
  have b3 : N (cv z - cv (nestedF [B, L] z)) ≤ 4 + (1 / 8388608 * (2 * N (cv z) + 4) + 1 / 1000) := by
    have : cv z - cv (nestedF [B, L] z) = -cv B - (cv (nestedF [B, L] z) - (cv z + cv B)) := q2e (by simp; grind) (by simp; grind)
    rw [this]
    have := N_sub (-cv B) (cv (nestedF [B, L] z) - (cv z + cv B))
    rw [N_neg] at this
    grind
  have n1 : N one2 = 1 := by decide +kernel
  have q126 : (4398046511104 : Rat) < p2 126 := by decide +kernel
  have q100 : (1 : Rat) < p2 100 := by decide +kernel
  have qm40 : p2 (-40) ≤ 1 := by decide +kernel
  obtain ⟨k3, z', k4, k5, k6⟩ := step_res hr hv hS hSv hz H1.f fs s1 trivial (by grind) (by rw [es, n1]; exact q100) (by rw [es, n1]; exact qm40) bz' hq (by rw [q42]; grind)
  refine ⟨k3, fun _ => ?_⟩
  rw [k4]
  refine ⟨k5, ?_⟩
  show N (cv z') ≤ p2 41
  rw [q41]
  have a1 := N_tri (cv z') (cv z - cv (nestedF [B, L] z))
  have a2 : u1 ≤ 1 / 8388608 := by decide +kernel
  have a4 := Rat.mul_le_mul_of_nonneg_right a2 (show 0 ≤ 2 * N (cv (nestedF [B, L] z)) + N (cv z - cv (nestedF [B, L] z)) by have := N_nonneg (cv (nestedF [B, L] z)); have := N_nonneg (cv z - cv (nestedF [B, L] z)); grind)
  generalize u1 = u at *
  generalize e1 = t at *
  grind
end
end Go.Proofs.Ytalfkkagbajjcaa

/- Balls: how far a Newton step of a number near a centre lies from the exact step of the centre; cubics and quadratics. Conditions: the slope at the centre is greater than what can be off. -/
namespace Go.Proofs.Ytalfkkagbajjcaa
set_option linter.unusedSimpArgs false
set_option linter.unusedVariables false
open Go

theorem sigma_le {S x w : Q2} {g : Rat} (h : x * S = w) (hg : g * N S ≤ sqN S) (hS : 0 < N S) : g * N x ≤ N w := by
  have k1 := quo_sq h
  have k2 := Rat.mul_le_mul_of_nonneg_right hg (N_nonneg x)
  refine lcancel_le hS ?_
  grind
theorem sigma_S {S : Q2} {g : Rat} (hg : g * N S ≤ sqN S) (hS : 0 < N S) : g ≤ N S := by
  have := sqN_le S
  exact lcancel_le hS (by grind)

/-- The last step of both: a number 'y' with 'y s' small. -/
theorem ball_end {S s y X : Q2} {g d num core : Rat} (hg : g * N S ≤ sqN S) (hS : 0 < N S) (hd : N (s - S) ≤ d) (hy : y * s = X) (hX : N X ≤ num) (hgd : d < g) (hc : num ≤ core * (g - d)) : N y ≤ core := by
  have e : y * S = X - y * (s - S) := by rw [← hy]; exact q2e (by simp; grind) (by simp; grind)
  have k1 := sigma_le e hg hS
  have k2 := N_sub X (y * (s - S))
  have k3 := N_mul y (s - S)
  have k4 := Rat.mul_le_mul_of_nonneg_left hd (N_nonneg y)
  refine lcancel_le (show 0 < g - d by grind) ?_
  grind

/-- The slope's norm, near a centre. -/
theorem ball3_s {Z z B C s : Q2} {R t es g d : Rat} (hR : N (z - Z) ≤ R) (ht : N (Z + Z + Z + B) ≤ t) (hs : N (s - cubS z B C) ≤ es)
    (hg : g * N (cubS Z B C) ≤ sqN (cubS Z B C)) (hS : 0 < N (cubS Z B C)) (hd : 2 * (t * R) + 3 * (R * R) + es ≤ d) : g - d ≤ N s ∧ N (s - cubS Z B C) ≤ d := by
  have R0 : 0 ≤ R := by have := N_nonneg (z - Z); grind
  have t0 : 0 ≤ t := by have := N_nonneg (Z + Z + Z + B); grind
  have d0 := N_nonneg (z - Z)
  have RR := mul_le hR hR d0 R0
  have a0 := N_mul (z - Z) (z - Z)
  have a2 := N_mul (Z + Z + Z + B) (z - Z)
  have a3 := mul_le ht hR d0 t0
  have eD : s - cubS Z B C = ((Z + Z + Z + B) * (z - Z) + (Z + Z + Z + B) * (z - Z)) + (((z - Z) * (z - Z) + (z - Z) * (z - Z)) + (z - Z) * (z - Z)) + (s - cubS z B C) := q2e (by simp [cubS, three2]; grind) (by simp [cubS, three2]; grind)
  have hdd : N (s - cubS Z B C) ≤ d := by
    rw [eD]
    have b1 := N_add (((Z + Z + Z + B) * (z - Z) + (Z + Z + Z + B) * (z - Z)) + (((z - Z) * (z - Z) + (z - Z) * (z - Z)) + (z - Z) * (z - Z))) (s - cubS z B C)
    have b2 := N_add ((Z + Z + Z + B) * (z - Z) + (Z + Z + Z + B) * (z - Z)) (((z - Z) * (z - Z) + (z - Z) * (z - Z)) + (z - Z) * (z - Z))
    have b3 := N_two ((Z + Z + Z + B) * (z - Z))
    have b4 := N_add ((z - Z) * (z - Z) + (z - Z) * (z - Z)) ((z - Z) * (z - Z))
    have b5 := N_two ((z - Z) * (z - Z))
    grind
  refine ⟨?_, hdd⟩
  have b1 := N_sub s (s - cubS Z B C)
  rw [show s - (s - cubS Z B C) = cubS Z B C from q2e (by simp; grind) (by simp; grind)] at b1
  have b2 := sigma_S hg hS
  grind
theorem ball3 {Z z B C D v s q Q0 : Q2} {R t es ev q1 g d num core : Rat} (hR : N (z - Z) ≤ R) (ht : N (Z + Z + Z + B) ≤ t)
    (hv : N (v - cubV z B C D) ≤ ev) (hs : N (s - cubS z B C) ≤ es) (hq : q * s = v) (hQ : Q0 * cubS Z B C = cubV Z B C D) (hQ1 : N Q0 ≤ q1)
    (hg : g * N (cubS Z B C) ≤ sqN (cubS Z B C)) (hS : 0 < N (cubS Z B C)) (hd : 2 * (t * R) + 3 * (R * R) + es ≤ d) (hgd : d < g)
    (hnum : t * (R * R) + 2 * (R * R * R) + R * es + ev + q1 * d ≤ num) (hc : num ≤ core * (g - d)) :
    N ((z - q) - (Z - Q0)) ≤ core ∧ g - d ≤ N s := by
  have R0 : 0 ≤ R := by have := N_nonneg (z - Z); grind
  have t0 : 0 ≤ t := by have := N_nonneg (Z + Z + Z + B); grind
  have d0 := N_nonneg (z - Z)
  have RR := mul_le hR hR d0 R0
  have a0 := N_mul (z - Z) (z - Z)
  have RRR := mul_le (show N ((z - Z) * (z - Z)) ≤ R * R by grind) hR d0 (Rat.mul_nonneg R0 R0)
  have a1 := N_mul ((z - Z) * (z - Z)) (z - Z)
  have a2 := N_mul (Z + Z + Z + B) (z - Z)
  have a3 := mul_le ht hR d0 t0
  have a4 := N_mul (Z + Z + Z + B) ((z - Z) * (z - Z))
  have a5 := mul_le ht (show N ((z - Z) * (z - Z)) ≤ R * R by grind) (N_nonneg _) t0
  obtain ⟨hlow, hdd⟩ := ball3_s hR ht hs hg hS hd
  constructor
  · have key : ((z - q) - (Z - Q0)) * s = ((Z + Z + Z + B) * ((z - Z) * (z - Z)) + ((z - Z) * (z - Z) * (z - Z) + (z - Z) * (z - Z) * (z - Z))) + ((z - Z) * (s - cubS z B C) - (v - cubV z B C D)) + Q0 * (s - cubS Z B C) := by
      have k1 : ((z - q) - (Z - Q0)) * s = (z - Z) * s - q * s + Q0 * cubS Z B C + Q0 * (s - cubS Z B C) := q2e (by simp; grind) (by simp; grind)
      rw [k1, hq, hQ]
      exact q2e (by simp [cubS, cubV, one2, three2]; grind) (by simp [cubS, cubV, one2, three2]; grind)
    refine ball_end hg hS hdd key ?_ hgd hc
    have c1 := N_add (((Z + Z + Z + B) * ((z - Z) * (z - Z)) + ((z - Z) * (z - Z) * (z - Z) + (z - Z) * (z - Z) * (z - Z))) + ((z - Z) * (s - cubS z B C) - (v - cubV z B C D))) (Q0 * (s - cubS Z B C))
    have c2 := N_add ((Z + Z + Z + B) * ((z - Z) * (z - Z)) + ((z - Z) * (z - Z) * (z - Z) + (z - Z) * (z - Z) * (z - Z))) ((z - Z) * (s - cubS z B C) - (v - cubV z B C D))
    have c3 := N_add ((Z + Z + Z + B) * ((z - Z) * (z - Z))) ((z - Z) * (z - Z) * (z - Z) + (z - Z) * (z - Z) * (z - Z))
    have c4 := N_two ((z - Z) * (z - Z) * (z - Z))
    have c5 := N_sub ((z - Z) * (s - cubS z B C)) (v - cubV z B C D)
    have c6 := N_mul (z - Z) (s - cubS z B C)
    have c7 := mul_le hR hs (N_nonneg _) R0
    have c8 := N_mul Q0 (s - cubS Z B C)
    have c9 := mul_le hQ1 hdd (N_nonneg _) (by have := N_nonneg Q0; grind)
    grind
  · exact hlow

theorem ball2_s {Z z B s : Q2} {R es g d : Rat} (hR : N (z - Z) ≤ R) (hs : N (s - quaS z B) ≤ es)
    (hg : g * N (quaS Z B) ≤ sqN (quaS Z B)) (hS : 0 < N (quaS Z B)) (hd : 2 * R + es ≤ d) : g - d ≤ N s ∧ N (s - quaS Z B) ≤ d := by
  have eD : s - quaS Z B = ((z - Z) + (z - Z)) + (s - quaS z B) := q2e (by simp [quaS, two2]; grind) (by simp [quaS, two2]; grind)
  have hdd : N (s - quaS Z B) ≤ d := by
    rw [eD]
    have b1 := N_add ((z - Z) + (z - Z)) (s - quaS z B)
    have b3 := N_two (z - Z)
    grind
  refine ⟨?_, hdd⟩
  have b1 := N_sub s (s - quaS Z B)
  rw [show s - (s - quaS Z B) = quaS Z B from q2e (by simp; grind) (by simp; grind)] at b1
  have b2 := sigma_S hg hS
  grind
theorem ball2 {Z z B C v s q Q0 : Q2} {R es ev q1 g d num core : Rat} (hR : N (z - Z) ≤ R)
    (hv : N (v - quaV z B C) ≤ ev) (hs : N (s - quaS z B) ≤ es) (hq : q * s = v) (hQ : Q0 * quaS Z B = quaV Z B C) (hQ1 : N Q0 ≤ q1)
    (hg : g * N (quaS Z B) ≤ sqN (quaS Z B)) (hS : 0 < N (quaS Z B)) (hd : 2 * R + es ≤ d) (hgd : d < g)
    (hnum : R * R + R * es + ev + q1 * d ≤ num) (hc : num ≤ core * (g - d)) :
    N ((z - q) - (Z - Q0)) ≤ core ∧ g - d ≤ N s := by
  have R0 : 0 ≤ R := by have := N_nonneg (z - Z); grind
  have d0 := N_nonneg (z - Z)
  have RR := mul_le hR hR d0 R0
  have a0 := N_mul (z - Z) (z - Z)
  have eD : s - quaS Z B = ((z - Z) + (z - Z)) + (s - quaS z B) := q2e (by simp [quaS, two2]; grind) (by simp [quaS, two2]; grind)
  have hdd : N (s - quaS Z B) ≤ d := by
    rw [eD]
    have b1 := N_add ((z - Z) + (z - Z)) (s - quaS z B)
    have b3 := N_two (z - Z)
    grind
  constructor
  · have key : ((z - q) - (Z - Q0)) * s = (z - Z) * (z - Z) + ((z - Z) * (s - quaS z B) - (v - quaV z B C)) + Q0 * (s - quaS Z B) := by
      have k1 : ((z - q) - (Z - Q0)) * s = (z - Z) * s - q * s + Q0 * quaS Z B + Q0 * (s - quaS Z B) := q2e (by simp; grind) (by simp; grind)
      rw [k1, hq, hQ]
      exact q2e (by simp [quaS, quaV, one2, two2]; grind) (by simp [quaS, quaV, one2, two2]; grind)
    refine ball_end hg hS hdd key ?_ hgd hc
    have c1 := N_add ((z - Z) * (z - Z) + ((z - Z) * (s - quaS z B) - (v - quaV z B C))) (Q0 * (s - quaS Z B))
    have c2 := N_add ((z - Z) * (z - Z)) ((z - Z) * (s - quaS z B) - (v - quaV z B C))
    have c5 := N_sub ((z - Z) * (s - quaS z B)) (v - quaV z B C)
    have c6 := N_mul (z - Z) (s - quaS z B)
    have c7 := mul_le hR hs (N_nonneg _) R0
    have c8 := N_mul Q0 (s - quaS Z B)
    have c9 := mul_le hQ1 hdd (N_nonneg _) (by have := N_nonneg Q0; grind)
    grind
  · have b1 := N_sub s (s - quaS Z B)
    rw [show s - (s - quaS Z B) = quaS Z B from q2e (by simp; grind) (by simp; grind)] at b1
    have b2 := sigma_S hg hS
    grind
end Go.Proofs.Ytalfkkagbajjcaa

/- Balls by natural numbers alone: a step of the reckoning, for cubics and quadratics (Gaussian integers as residues modulo B * B + 1, fixed point 2 ^ 32). Conditions: none, these are definitions. -/
namespace Go.Proofs.Ytalfkkagbajjcaa
set_option linter.unusedVariables false

def ab (a o : Nat) : Nat := Nat.add (Nat.sub a o) (Nat.sub o a)
def kFin (x y R : Nat) : Bool := Nat.ble (Nat.add (Nat.add (ab x 17592186044416) (ab y 17592186044416)) R) 8796093022208

def c8 (k : Nat → Nat → Nat → Bool) (x1 y1 w qa qb core q R : Nat) : Bool :=
  k (Nat.sub x1 qa) (Nat.sub y1 qb) (Nat.add (Nat.add core 6) (Nat.shiftRight (Nat.add (Nat.mul 2 (Nat.add (Nat.add q core) R)) w) 23))
def c7 (k : Nat → Nat → Nat → Bool) (x1 y1 R w qa qb q t s es ev d : Nat) : Bool :=
  cond (Nat.ble s d) false
    (c8 k x1 y1 w qa qb (Nat.succ (Nat.div (Nat.add (Nat.add (Nat.mul (Nat.add (Nat.add (Nat.shiftRight (Nat.mul (Nat.add t (Nat.add R R)) R) 32) es) 2) R) (Nat.succ ev)) (Nat.mul q d)) (Nat.sub s d))) q R)
def c6 (k : Nat → Nat → Nat → Bool) (x1 y1 R w qa qb q t s es ev : Nat) : Bool :=
  c7 k x1 y1 R w qa qb q t s es ev (Nat.add (Nat.shiftRight (Nat.mul (Nat.add (Nat.add t t) (Nat.mul 3 R)) R) 32) (Nat.add es 2))
def c5 (k : Nat → Nat → Nat → Bool) (b1 b2 E2 E1 E0 F1 F0 x y x1 y1 R w qa qb s : Nat) : Bool :=
  cond (Nat.beq qa 0) false (cond (Nat.beq qb 0) false (cond (Nat.ble qa x1) (cond (Nat.ble qb y1)
    (c6 k x1 y1 R w qa qb (Nat.add (Nat.add (ab qa 17592186044416) (ab qb 17592186044416)) 2)
      (Nat.add (ab (Nat.add (Nat.mul 3 x) b1) 70368744177664) (ab (Nat.add (Nat.mul 3 y) b2) 70368744177664)) s
      (Nat.shiftRight (Nat.add (Nat.mul (Nat.add (Nat.mul 12 w) F1) w) F0) 56)
      (Nat.shiftRight (Nat.add (Nat.mul (Nat.add (Nat.mul (Nat.add (Nat.mul 6 w) E2) w) E1) w) E0) 56)) false) false))
def c4 (k : Nat → Nat → Nat → Bool) (B H b1 b2 E2 E1 E0 F1 F0 x y R w U n n44 N1 : Nat) : Bool :=
  c5 k b1 b2 E2 E1 E0 F1 F0 x y (Nat.add x 17592186044416) (Nat.add y 17592186044416) R w (Nat.div (Nat.sub (Nat.add (Nat.mod U B) n44) H) n) (Nat.div (Nat.sub (Nat.add (Nat.div U B) n44) H) n)
    (Nat.shiftRight (Nat.div n N1) 32)
def c3 (k : Nat → Nat → Nat → Bool) (B M H OFF b1 b2 E2 E1 E0 F1 F0 x y R w V Sb n N1 : Nat) : Bool :=
  c4 k B H b1 b2 E2 E1 E0 F1 F0 x y R w (Nat.mod (Nat.add (Nat.mul V Sb) OFF) M) n (Nat.shiftLeft n 44) N1
def c2b (k : Nat → Nat → Nat → Bool) (B M H OFF b1 b2 E2 E1 E0 F1 F0 x y R w V Sb na nb : Nat) : Bool :=
  c3 k B M H OFF b1 b2 E2 E1 E0 F1 F0 x y R w V Sb (Nat.add (Nat.mul na na) (Nat.mul nb nb)) (Nat.add na nb)
def c2 (k : Nat → Nat → Nat → Bool) (B M H OFF KS b1 b2 E2 E1 E0 F1 F0 x y R w V sa sb : Nat) : Bool :=
  c2b k B M H OFF b1 b2 E2 E1 E0 F1 F0 x y R w V (Nat.sub (Nat.add sa KS) (Nat.mul sb B)) (ab sa H) (ab sb H)
def c1b (k : Nat → Nat → Nat → Bool) (B M H OFF KS b1 b2 E2 E1 E0 F1 F0 x y R w V S : Nat) : Bool :=
  c2 k B M H OFF KS b1 b2 E2 E1 E0 F1 F0 x y R w V (Nat.mod S B) (Nat.div S B)
def c1 (k : Nat → Nat → Nat → Bool) (B M H OFF KS b1 b2 c cH d E2 E1 E0 F1 F0 x y R w Z P : Nat) : Bool :=
  c1b k B M H OFF KS b1 b2 E2 E1 E0 F1 F0 x y R w (Nat.mod (Nat.add (Nat.mul (Nat.add (Nat.mul P Z) c) Z) d) M) (Nat.mod (Nat.add (Nat.mul (Nat.add (Nat.add P P) Z) Z) cH) M)
def c0b (k : Nat → Nat → Nat → Bool) (B M H OFF KS b1 b2 bE c cH d E2 E1 E0 F1 F0 x y R w Z : Nat) : Bool :=
  c1 k B M H OFF KS b1 b2 c cH d E2 E1 E0 F1 F0 x y R w Z (Nat.add Z bE)
def c0 (k : Nat → Nat → Nat → Bool) (B M H OFF KS CZ b1 b2 bE c cH d E2 E1 E0 F1 F0 x y R w : Nat) : Bool :=
  cond (Nat.ble w 2199023255552) (c0b k B M H OFF KS b1 b2 bE c cH d E2 E1 E0 F1 F0 x y R w (Nat.add x (Nat.add (Nat.mul y B) CZ))) false
/-- A step, for a cubic. -/
def cubK (B M H OFF KS CZ b1 b2 bE c cH d E2 E1 E0 F1 F0 : Nat) (k : Nat → Nat → Nat → Bool) (x y R : Nat) : Bool :=
  c0 k B M H OFF KS CZ b1 b2 bE c cH d E2 E1 E0 F1 F0 x y R (Nat.add (Nat.add (ab x 17592186044416) (ab y 17592186044416)) R)

/-- Six steps. -/
def orbK (f : (Nat → Nat → Nat → Bool) → Nat → Nat → Nat → Bool) : Nat → Nat → Nat → Bool := f (f (f (f (f (f kFin)))))
/-- From all points of the grid. -/
def rowK (f : Nat → Nat → Nat → Bool) (y : Nat) : Bool :=
  and (f 17583596109824 y 0) (and (f 17589367472128 y 0) (and (f 17595138834432 y 0) (f 17600910196736 y 0)))
def gridK (f : Nat → Nat → Nat → Bool) : Bool := and (rowK f 17583327674368) (and (rowK f 17589143776256) (and (rowK f 17594959878144) (rowK f 17600775979008)))
def cub2 (B M H OFF KS CZ b1 b2 bE c d E2 E1 E0 F1 F0 : Nat) : Bool := gridK (orbK (cubK B M H OFF KS CZ b1 b2 bE c (Nat.add c OFF) d E2 E1 E0 F1 F0))
/-- be, ga, ka: the norms of the terms in eighths, 64ths, 512ths. -/
def cub1 (B M H OFF KS CZ b1 b2 e2 e3 be ga ka : Nat) : Bool :=
  cub2 B M H OFF KS CZ b1 b2 (Nat.add b1 (Nat.add (Nat.mul b2 B) CZ)) (Nat.shiftLeft e2 58) (Nat.shiftLeft (Nat.sub M e3) 87)
    (Nat.add (Nat.mul be 2684354560) 67108864) (Nat.shiftLeft (Nat.add (Nat.mul ga 201326592) 67108864) 32) (Nat.shiftLeft (Nat.add (Nat.mul ka 8388608) 67108864) 64)
    (Nat.add (Nat.mul be 3221225472) 67108864) (Nat.shiftLeft (Nat.add (Nat.mul ga 67108864) 67108864) 32)
/-- sx, sy: the sums of the roots' parts in eighths, 48 added; e2H: the second term in 64ths, OFF added; e3, e3H: the third in 512ths. -/
def cub0b (B M H OFF KS CZ sx sy e2 e2x e2y e3 e3H : Nat) : Bool :=
  cub1 B M H OFF KS CZ (Nat.sub 17617955848192 (Nat.mul sx 536870912)) (Nat.sub 17617955848192 (Nat.mul sy 536870912)) e2 e3
    (Nat.add (ab sx 48) (ab sy 48)) (Nat.add (ab e2x H) (ab e2y H)) (Nat.add (ab (Nat.mod e3H B) H) (ab (Nat.div e3H B) H))
def cub0c (B M H OFF KS CZ sx sy e2 e2x e2y r3 m12 : Nat) : Bool :=
  cond (Nat.beq e2x H) (cub0b B M H OFF KS CZ sx sy e2 e2x e2y (Nat.mod (Nat.mul m12 r3) M) (Nat.mod (Nat.add (Nat.mul m12 r3) OFF) M))
    (cond (Nat.beq e2y H) (cub0b B M H OFF KS CZ sx sy e2 e2x e2y (Nat.mod (Nat.mul m12 r3) M) (Nat.mod (Nat.add (Nat.mul m12 r3) OFF) M)) true)
def cub0d (B M H OFF KS CZ sx sy e2 e2H r3 m12 : Nat) : Bool := cub0c B M H OFF KS CZ sx sy e2 (Nat.mod e2H B) (Nat.div e2H B) r3 m12
def cub0e (B M H OFF KS CZ sx sy e2 r3 m12 : Nat) : Bool := cub0d B M H OFF KS CZ sx sy e2 (Nat.mod (Nat.add e2 OFF) M) r3 m12
/-- Root k (in eighths, 16 added to each part) by its number j below 85. -/
def rootX (k j : Nat) : Nat := Nat.add (Nat.add (Nat.mul 8 k) 4) (Nat.div j 17)
def rootY (j : Nat) : Nat := Nat.add 8 (Nat.mod j 17)
def rootE (B C16 X Y : Nat) : Nat := Nat.add X (Nat.add (Nat.mul Y B) C16)
def all85 (f : Nat → Bool) : Bool := Nat.rec true (fun k r => cond (f k) r false) 85
def cub3 (B M H OFF KS CZ C16 sx sy m12 s12 X Y : Nat) : Bool :=
  (fun r3 => cub0e B M H OFF KS CZ (Nat.add sx X) (Nat.add sy Y) (Nat.mod (Nat.add m12 (Nat.mul s12 r3)) M) r3 m12) (rootE B C16 X Y)
def cub4 (B M H OFF KS CZ C16 X1 Y1 X2 Y2 r1 r2 : Nat) : Bool :=
  (fun m12 s12 sx sy => all85 fun j => cub3 B M H OFF KS CZ C16 sx sy m12 s12 (rootX 2 j) (rootY j)) (Nat.mod (Nat.mul r1 r2) M) (Nat.add r1 r2) (Nat.add X1 X2) (Nat.add Y1 Y2)
def cub5 (B M H OFF KS CZ C16 X1 Y1 X2 Y2 : Nat) : Bool := cub4 B M H OFF KS CZ C16 X1 Y1 X2 Y2 (rootE B C16 X1 Y1) (rootE B C16 X2 Y2)
def cub6 (B M H OFF KS CZ C16 j1 : Nat) : Bool := all85 fun j => cub5 B M H OFF KS CZ C16 (rootX 0 j1) (rootY j1) (rootX 1 j) (rootY j)
def cubAll (j1 : Nat) : Bool := cub6 26959946667150639794667015087019630673637144422540572481103610249216 726838724295606890549323807888004534353641360687318060281490199180639288113397923326191050713763565560762521606266177933534601628614657 13479973333575319897333507543509815336818572211270286240551805124608 363419362147803445274661903944002267176820680343659030140745099590333124030032536982992858864425292595718079375344359253007852619431936 1090258086443410335823985711832006801530462041030977090422235298770945452196763309669389242563101838525806963837187996614061350637797377 726838724295606890549323807888004534353641360687318059807205801664592151658451168730605380146769708370298771300647913837104830437392385 1453677448591213781098647615776009068707282721374636120562980398360847217080121436415667429186134817030746848901771706707371545493241842 j1
end Go.Proofs.Ytalfkkagbajjcaa

/- What a step of the reckoning says, opened; residues modulo B * B + 1 as Gaussian integers. Conditions: none. -/
namespace Go.Proofs.Ytalfkkagbajjcaa
set_option linter.unusedSimpArgs false
set_option linter.unusedVariables false

theorem cond_true {a x : Bool} (h : cond a x false = true) : a = true ∧ x = true := by cases a <;> simp_all
theorem cond_false {a x : Bool} (h : cond a false x = true) : a = false ∧ x = true := by cases a <;> simp_all

theorem lt_of_ble_false {a b : Nat} (h : Nat.ble a b = false) : b < a := by
  rcases Nat.lt_or_ge b a with hlt | hle
  · exact hlt
  · have := Nat.ble_eq_true_of_le hle
    rw [h] at this; cases this

/-- The numbers of a cubic's step. -/
structure CubT (B M H OFF KS CZ b1 b2 bE c cH d E2 E1 E0 F1 F0 : Nat) (k : Nat → Nat → Nat → Bool) (x y R : Nat) : Prop where
  ex : ∃ w Z V S sa sb Sb na nb n U qa qb s q t es ev dd core : Nat,
    (w = ab x 17592186044416 + ab y 17592186044416 + R ∧ w ≤ 2199023255552) ∧ Z = x + (y * B + CZ) ∧ V = (((Z + bE) * Z + c) * Z + d) % M ∧ S = ((Z + bE + (Z + bE) + Z) * Z + cH) % M ∧
    sa = S % B ∧ sb = S / B ∧ Sb = sa + KS - sb * B ∧ na = ab sa H ∧ nb = ab sb H ∧ n = na * na + nb * nb ∧ U = (V * Sb + OFF) % M ∧
    (qa = (U % B + n <<< 44 - H) / n ∧ qb = (U / B + n <<< 44 - H) / n ∧ qa ≠ 0 ∧ qb ≠ 0 ∧ qa ≤ x + 17592186044416 ∧ qb ≤ y + 17592186044416) ∧ s = (n / (na + nb)) >>> 32 ∧
    q = ab qa 17592186044416 + ab qb 17592186044416 + 2 ∧ t = ab (3 * x + b1) 70368744177664 + ab (3 * y + b2) 70368744177664 ∧
    es = ((12 * w + F1) * w + F0) >>> 56 ∧ ev = (((6 * w + E2) * w + E1) * w + E0) >>> 56 ∧ dd = ((t + t + 3 * R) * R) >>> 32 + (es + 2) ∧ dd < s ∧
    core = ((((t + (R + R)) * R) >>> 32 + es + 2) * R + (ev + 1) + q * dd) / (s - dd) + 1 ∧
    k (x + 17592186044416 - qa) (y + 17592186044416 - qb) (core + 6 + (2 * (q + core + R) + w) >>> 23) = true

theorem cubK_true {B M H OFF KS CZ b1 b2 bE c cH d E2 E1 E0 F1 F0 : Nat} {k : Nat → Nat → Nat → Bool} {x y R : Nat}
    (h : cubK B M H OFF KS CZ b1 b2 bE c cH d E2 E1 E0 F1 F0 k x y R = true) : CubT B M H OFF KS CZ b1 b2 bE c cH d E2 E1 E0 F1 F0 k x y R := by
  unfold cubK c0 at h
  obtain ⟨g1, h⟩ := cond_true h
  unfold c0b c1 c1b c2 c2b c3 c4 c5 at h
  obtain ⟨g2, h⟩ := cond_false h
  obtain ⟨g3, h⟩ := cond_false h
  obtain ⟨g4, h⟩ := cond_true h
  obtain ⟨g5, h⟩ := cond_true h
  unfold c6 c7 at h
  obtain ⟨g6, h⟩ := cond_false h
  unfold c8 at h
  refine ⟨_, _, _, _, _, _, _, _, _, _, _, _, _, _, _, _, _, _, _, _, ⟨rfl, Nat.le_of_ble_eq_true g1⟩, rfl, rfl, rfl, rfl, rfl, rfl, rfl, rfl, rfl, rfl, ⟨rfl, rfl, Nat.ne_of_beq_eq_false g2, Nat.ne_of_beq_eq_false g3, Nat.le_of_ble_eq_true g4, Nat.le_of_ble_eq_true g5⟩, rfl, rfl, rfl, rfl, rfl, rfl, lt_of_ble_false g6, rfl, h⟩

/-- A natural number that stands for a Gaussian integer. -/
def Rs (B n : Nat) (a b : Int) : Prop := ∃ k : Int, (n : Int) = a + b * B + k * (B * B + 1)
theorem Rs.add {B n m : Nat} {a b c d : Int} (h : Rs B n a b) (g : Rs B m c d) : Rs B (n + m) (a + c) (b + d) := by
  obtain ⟨k, h⟩ := h
  obtain ⟨l, g⟩ := g
  refine ⟨k + l, ?_⟩
  rw [Int.natCast_add, h, g]; grind
theorem Rs.mul {B n m : Nat} {a b c d : Int} (h : Rs B n a b) (g : Rs B m c d) : Rs B (n * m) (a * c - b * d) (a * d + b * c) := by
  obtain ⟨k, h⟩ := h
  obtain ⟨l, g⟩ := g
  refine ⟨b * d + k * (c + d * B) + l * (a + b * B) + k * l * (B * B + 1), ?_⟩
  rw [Int.natCast_mul, h, g]; grind
theorem Rs.mod {B M n : Nat} {a b : Int} (h : Rs B n a b) (hM : M = B * B + 1) : Rs B (n % M) a b := by
  obtain ⟨k, h⟩ := h
  refine ⟨k - (n / M : Nat), ?_⟩
  have h1 := Nat.div_add_mod n M
  have h2 : (M : Int) = B * B + 1 := by rw [hM, Int.natCast_add, Int.natCast_mul]; rfl
  have h3 : (n : Int) = (M : Int) * ((n / M : Nat) : Int) + ((n % M : Nat) : Int) := by exact_mod_cast h1.symm
  rw [← h2] at h ⊢
  generalize ((n / M : Nat) : Int) = q at *
  generalize ((n % M : Nat) : Int) = r at *
  grind
theorem Rs.decode {B n : Nat} {a b : Int} (h : Rs B n a b) (hn : n < B * B + 1) (ha : 0 ≤ a ∧ a < B) (hb : 0 ≤ b ∧ b < B) : ((n % B : Nat) : Int) = a ∧ ((n / B : Nat) : Int) = b := by
  obtain ⟨k, h⟩ := h
  obtain ⟨a, rfl⟩ := Int.eq_ofNat_of_zero_le ha.1
  obtain ⟨b, rfl⟩ := Int.eq_ofNat_of_zero_le hb.1
  have ha2 : a < B := by omega
  have hb2 : b < B := by omega
  have h1 : a + b * B < B * B := by
    have : (b + 1) * B ≤ B * B := Nat.mul_le_mul_right B hb2
    rw [Nat.add_mul] at this
    omega
  have h2 : (n : Int) = ((a + b * B : Nat) : Int) + k * ((B * B + 1 : Nat) : Int) := by
    rw [h]; simp only [Int.natCast_add, Int.natCast_mul]; rfl
  have hk : k = 0 := by
    have hB : 0 < B * B + 1 := by omega
    generalize a + b * B = u at *
    generalize B * B = v at *
    rcases Int.lt_trichotomy k 0 with hk | hk | hk
    · exfalso
      have : k * ((v + 1 : Nat) : Int) ≤ -1 * ((v + 1 : Nat) : Int) := Int.mul_le_mul_of_nonneg_right (by omega) (by omega)
      omega
    · exact hk
    · exfalso
      have : 1 * ((v + 1 : Nat) : Int) ≤ k * ((v + 1 : Nat) : Int) := Int.mul_le_mul_of_nonneg_right (by omega) (by omega)
      omega
  subst hk
  have h3 : n = a + B * b := by
    have : n = a + b * B := by omega
    rw [this, Nat.mul_comm]
  have hB : 0 < B := by omega
  constructor
  · rw [h3, Nat.add_mul_mod_self_left, Nat.mod_eq_of_lt ha2]
  · rw [h3, Nat.add_mul_div_left _ _ hB, Nat.div_eq_of_lt ha2, Nat.zero_add]
theorem ab_val (x o : Nat) : ((ab x o : Nat) : Int) = (((x : Int) - (o : Int)).natAbs : Int) := by
  show (((x - o) + (o - x) : Nat) : Int) = _
  omega
theorem mulb {a b U V : Int} (ha : -U ≤ a ∧ a ≤ U) (hb : -V ≤ b ∧ b ≤ V) : -(U * V) ≤ a * b ∧ a * b ≤ U * V := by
  have h1 : 0 ≤ (U - a) * (V + b) := Int.mul_nonneg (by omega) (by omega)
  have h2 : 0 ≤ (U + a) * (V - b) := Int.mul_nonneg (by omega) (by omega)
  have h3 : 0 ≤ (U - a) * (V - b) := Int.mul_nonneg (by omega) (by omega)
  have h4 : 0 ≤ (U + a) * (V + b) := Int.mul_nonneg (by omega) (by omega)
  constructor <;> grind
end Go.Proofs.Ytalfkkagbajjcaa

/- A cubic's step of the reckoning in integers. Conditions: the numbers' sizes. -/
namespace Go.Proofs.Ytalfkkagbajjcaa
set_option linter.unusedSimpArgs false
set_option linter.unusedVariables false

/-- The constants of the reckoning. -/
structure Cst (B M H OFF KS CZ : Nat) : Prop where
  hB : 2 * H = B
  hH : (2 : Int) ^ 220 ≤ (H : Int)
  hM : M = B * B + 1
  hO : Rs B OFF H H
  hK : (KS : Int) = B * B + 1 + H * B - H
  hZ : Rs B CZ (-17592186044416) (-17592186044416)

/-- The parts of a step: P = Z + b, m = P Z + c, V = m Z + d, S = (2 P + Z) Z + c. -/
def gx (a b c d : Int) : Int := a * c - b * d
def gy (a b c d : Int) : Int := a * d + b * c
def vX (X Y b1 b2 cx cy dx : Int) : Int := gx (gx (X + b1) (Y + b2) X Y + cx) (gy (X + b1) (Y + b2) X Y + cy) X Y + dx
def vY (X Y b1 b2 cx cy dy : Int) : Int := gy (gx (X + b1) (Y + b2) X Y + cx) (gy (X + b1) (Y + b2) X Y + cy) X Y + dy
def sX (X Y b1 b2 cx : Int) : Int := gx (X + b1 + (X + b1) + X) (Y + b2 + (Y + b2) + Y) X Y + cx
def sY (X Y b1 b2 cy : Int) : Int := gy (X + b1 + (X + b1) + X) (Y + b2 + (Y + b2) + Y) X Y + cy

theorem g_bound {a b c d U V : Int} (ha : -U ≤ a ∧ a ≤ U) (hb : -U ≤ b ∧ b ≤ U) (hc : -V ≤ c ∧ c ≤ V) (hd : -V ≤ d ∧ d ≤ V) :
    (-(2 * (U * V)) ≤ gx a b c d ∧ gx a b c d ≤ 2 * (U * V)) ∧ (-(2 * (U * V)) ≤ gy a b c d ∧ gy a b c d ≤ 2 * (U * V)) := by
  have h1 := mulb ha hc
  have h2 := mulb hb hd
  have h3 := mulb ha hd
  have h4 := mulb hb hc
  unfold gx gy
  generalize U * V = W at *
  generalize a * c = e1 at *
  generalize b * d = e2 at *
  generalize a * d = e3 at *
  generalize b * c = e4 at *
  omega

theorem quo_floor {n U44 H : Nat} {u : Int} {q : Nat} (hn : 0 < n) (hU : ((U44 : Nat) : Int) = u + H) (hq : q = (U44 + n <<< 44 - H) / n) (h0 : q ≠ 0) : ((q : Int) - 17592186044416) * n ≤ u ∧ u < ((q : Int) - 17592186044416 + 1) * n := by
  rw [Nat.shiftLeft_eq, show (2 : Nat) ^ 44 = 17592186044416 from rfl] at hq
  have h1 : n ≤ U44 + n * 17592186044416 - H := by
    rcases Nat.lt_or_ge (U44 + n * 17592186044416 - H) n with h | h
    · exact absurd (by rw [hq, Nat.div_eq_of_lt h]) h0
    · exact h
  have h2 := Nat.div_add_mod (U44 + n * 17592186044416 - H) n
  have h3 := Nat.mod_lt (U44 + n * 17592186044416 - H) hn
  rw [← hq] at h2
  generalize (U44 + n * 17592186044416 - H) % n = r at *
  have h4 : (n : Int) * q + r = u + n * 17592186044416 := by
    have e : ((n * q + r : Nat) : Int) = ((U44 + n * 17592186044416 - H : Nat) : Int) := by rw [h2]
    rw [Int.natCast_add, Int.natCast_mul] at e
    omega
  constructor <;> grind

section
variable {B M H OFF KS CZ b1 b2 bE c cH d E2 E1 E0 F1 F0 : Nat} {k : Nat → Nat → Nat → Bool} {x y R : Nat} {B1 B2 Cx Cy Dx Dy : Int}
theorem cub_int (h : CubT B M H OFF KS CZ b1 b2 bE c cH d E2 E1 E0 F1 F0 k x y R) (K : Cst B M H OFF KS CZ)
    (h1 : (b1 : Int) = B1 + 17592186044416) (h2 : (b2 : Int) = B2 + 17592186044416) (hbE : Rs B bE B1 B2) (hc : Rs B c Cx Cy) (hcH : Rs B cH (Cx + H) (Cy + H)) (hd : Rs B d Dx Dy)
    (w1 : -(2 : Int) ^ 36 ≤ B1 ∧ B1 ≤ (2 : Int) ^ 36) (w2 : -(2 : Int) ^ 36 ≤ B2 ∧ B2 ≤ (2 : Int) ^ 36) (w3 : -(2 : Int) ^ 70 ≤ Cx ∧ Cx ≤ (2 : Int) ^ 70) (w4 : -(2 : Int) ^ 70 ≤ Cy ∧ Cy ≤ (2 : Int) ^ 70)
    (w5 : -(2 : Int) ^ 104 ≤ Dx ∧ Dx ≤ (2 : Int) ^ 104) (w6 : -(2 : Int) ^ 104 ≤ Dy ∧ Dy ≤ (2 : Int) ^ 104) :
    ∃ (X Y fx fy : Int) (w n N1 s q t es ev dd core x' y' : Nat), (x : Int) = X + 17592186044416 ∧ (y : Int) = Y + 17592186044416 ∧
      (w : Int) = X.natAbs + Y.natAbs + R ∧ w ≤ 2199023255552 ∧
      (n : Int) = sX X Y B1 B2 Cx * sX X Y B1 B2 Cx + sY X Y B1 B2 Cy * sY X Y B1 B2 Cy ∧ 0 < n ∧ (N1 : Int) = (sX X Y B1 B2 Cx).natAbs + (sY X Y B1 B2 Cy).natAbs ∧ s * 4294967296 * N1 ≤ n ∧
      (fx * n ≤ vX X Y B1 B2 Cx Cy Dx * sX X Y B1 B2 Cx + vY X Y B1 B2 Cx Cy Dy * sY X Y B1 B2 Cy ∧ vX X Y B1 B2 Cx Cy Dx * sX X Y B1 B2 Cx + vY X Y B1 B2 Cx Cy Dy * sY X Y B1 B2 Cy < (fx + 1) * n) ∧
      (fy * n ≤ vY X Y B1 B2 Cx Cy Dy * sX X Y B1 B2 Cx - vX X Y B1 B2 Cx Cy Dx * sY X Y B1 B2 Cy ∧ vY X Y B1 B2 Cx Cy Dy * sX X Y B1 B2 Cx - vX X Y B1 B2 Cx Cy Dx * sY X Y B1 B2 Cy < (fy + 1) * n) ∧
      (q : Int) = fx.natAbs + fy.natAbs + 2 ∧ (t : Int) = (3 * X + B1).natAbs + (3 * Y + B2).natAbs ∧
      es = ((12 * w + F1) * w + F0) / 2 ^ 56 ∧ ev = (((6 * w + E2) * w + E1) * w + E0) / 2 ^ 56 ∧ dd = ((t + t + 3 * R) * R) / 2 ^ 32 + (es + 2) ∧ dd < s ∧
      core = ((((t + (R + R)) * R) / 2 ^ 32 + es + 2) * R + (ev + 1) + q * dd) / (s - dd) + 1 ∧
      (x' : Int) = X - fx + 17592186044416 ∧ (y' : Int) = Y - fy + 17592186044416 ∧ k x' y' (core + 6 + (2 * (q + core + R) + w) / 2 ^ 23) = true := by
  obtain ⟨w, Z, V, S, sa, sb, Sb, na, nb, n, U, qa, qb, s, q, t, es, ev, dd, core, ⟨hw, hw2⟩, hZ, hV, hS, hsa, hsb, hSb, hna, hnb, hn, hU, ⟨hqa, hqb, qa0, qb0, qa1, qb1⟩, hs, hq, ht, hes, hev, hdd, hds, hcore, hk⟩ := h.ex
  obtain ⟨X, hX⟩ : ∃ X : Int, (x : Int) = X + 17592186044416 := ⟨x - 17592186044416, by omega⟩
  obtain ⟨Y, hY⟩ : ∃ Y : Int, (y : Int) = Y + 17592186044416 := ⟨y - 17592186044416, by omega⟩
  have hwI : (w : Int) = X.natAbs + Y.natAbs + R := by
    have a1 := ab_val x 17592186044416
    have a2 := ab_val y 17592186044416
    rw [hw]
    omega
  have bX : -(2 : Int) ^ 41 ≤ X ∧ X ≤ (2 : Int) ^ 41 := by
    have : (2 : Int) ^ 41 = 2199023255552 := by decide
    rw [this]; omega
  have bY : -(2 : Int) ^ 41 ≤ Y ∧ Y ≤ (2 : Int) ^ 41 := by
    have : (2 : Int) ^ 41 = 2199023255552 := by decide
    rw [this]; omega
  -- residues
  have rZ : Rs B Z X Y := by
    obtain ⟨l, hl⟩ := K.hZ
    refine ⟨l, ?_⟩
    rw [hZ, Int.natCast_add, Int.natCast_add, Int.natCast_mul, hl, hX, hY]; grind
  have rP := rZ.add hbE
  have rV := ((((rP.mul rZ).add hc).mul rZ).add hd).mod K.hM
  rw [← hV] at rV
  have rS := ((((rP.add rP).add rZ).mul rZ).add hcH).mod K.hM
  rw [← hS] at rS
  -- sizes
  have z36 : (2 : Int) ^ 36 ≤ 2 ^ 41 := by decide
  have bP1 : -(2 : Int) ^ 42 ≤ X + B1 ∧ X + B1 ≤ (2 : Int) ^ 42 := by
    have e1 : (2 : Int) ^ 42 = 2 ^ 41 + 2 ^ 41 := by decide
    rw [e1]; generalize (2 : Int) ^ 41 = e at *; omega
  have bP2 : -(2 : Int) ^ 42 ≤ Y + B2 ∧ Y + B2 ≤ (2 : Int) ^ 42 := by
    have e1 : (2 : Int) ^ 42 = 2 ^ 41 + 2 ^ 41 := by decide
    rw [e1]; generalize (2 : Int) ^ 41 = e at *; omega
  have bT1 : -(2 : Int) ^ 44 ≤ X + B1 + (X + B1) + X ∧ X + B1 + (X + B1) + X ≤ (2 : Int) ^ 44 := by
    have e1 : (2 : Int) ^ 44 = 8 * 2 ^ 41 := by decide
    have e2 : (2 : Int) ^ 42 = 2 * 2 ^ 41 := by decide
    rw [e1]; rw [e2] at bP1; generalize (2 : Int) ^ 41 = e at *; omega
  have bT2 : -(2 : Int) ^ 44 ≤ Y + B2 + (Y + B2) + Y ∧ Y + B2 + (Y + B2) + Y ≤ (2 : Int) ^ 44 := by
    have e1 : (2 : Int) ^ 44 = 8 * 2 ^ 41 := by decide
    have e2 : (2 : Int) ^ 42 = 2 * 2 ^ 41 := by decide
    rw [e1]; rw [e2] at bP2; generalize (2 : Int) ^ 41 = e at *; omega
  have bm := g_bound bP1 bP2 bX bY
  have bs := g_bound bT1 bT2 bX bY
  have bSx : -(2 : Int) ^ 88 ≤ sX X Y B1 B2 Cx ∧ sX X Y B1 B2 Cx ≤ (2 : Int) ^ 88 := by
    have e1 : (2 : Int) ^ 88 = 2 * (2 ^ 44 * 2 ^ 41) + 2 ^ 88 - 2 ^ 86 := by decide
    have e2 : (2 : Int) ^ 70 ≤ 2 ^ 88 - 2 ^ 86 := by decide
    unfold sX
    generalize (2 : Int) ^ 88 - 2 ^ 86 = f at *
    omega
  have bSy : -(2 : Int) ^ 88 ≤ sY X Y B1 B2 Cy ∧ sY X Y B1 B2 Cy ≤ (2 : Int) ^ 88 := by
    have e1 : (2 : Int) ^ 88 = 2 * (2 ^ 44 * 2 ^ 41) + 2 ^ 88 - 2 ^ 86 := by decide
    have e2 : (2 : Int) ^ 70 ≤ 2 ^ 88 - 2 ^ 86 := by decide
    unfold sY
    generalize (2 : Int) ^ 88 - 2 ^ 86 = f at *
    omega
  have bm1 : -(2 : Int) ^ 85 ≤ gx (X + B1) (Y + B2) X Y + Cx ∧ gx (X + B1) (Y + B2) X Y + Cx ≤ (2 : Int) ^ 85 := by
    have e1 : (2 : Int) ^ 85 = 2 * (2 ^ 42 * 2 ^ 41) + 2 ^ 84 := by decide
    have e2 : (2 : Int) ^ 70 ≤ 2 ^ 84 := by decide
    generalize (2 : Int) ^ 84 = f at *
    omega
  have bm2 : -(2 : Int) ^ 85 ≤ gy (X + B1) (Y + B2) X Y + Cy ∧ gy (X + B1) (Y + B2) X Y + Cy ≤ (2 : Int) ^ 85 := by
    have e1 : (2 : Int) ^ 85 = 2 * (2 ^ 42 * 2 ^ 41) + 2 ^ 84 := by decide
    have e2 : (2 : Int) ^ 70 ≤ 2 ^ 84 := by decide
    generalize (2 : Int) ^ 84 = f at *
    omega
  have bv := g_bound bm1 bm2 bX bY
  have bVx : -(2 : Int) ^ 128 ≤ vX X Y B1 B2 Cx Cy Dx ∧ vX X Y B1 B2 Cx Cy Dx ≤ (2 : Int) ^ 128 := by
    have e1 : (2 : Int) ^ 128 = 2 * (2 ^ 85 * 2 ^ 41) + 2 ^ 127 := by decide
    have e2 : (2 : Int) ^ 104 ≤ 2 ^ 127 := by decide
    unfold vX
    generalize (2 : Int) ^ 127 = f at *
    omega
  have bVy : -(2 : Int) ^ 128 ≤ vY X Y B1 B2 Cx Cy Dy ∧ vY X Y B1 B2 Cx Cy Dy ≤ (2 : Int) ^ 128 := by
    have e1 : (2 : Int) ^ 128 = 2 * (2 ^ 85 * 2 ^ 41) + 2 ^ 127 := by decide
    have e2 : (2 : Int) ^ 104 ≤ 2 ^ 127 := by decide
    unfold vY
    generalize (2 : Int) ^ 127 = f at *
    omega
  have hH := K.hH
  have hBI : 2 * (H : Int) = (B : Int) := by exact_mod_cast K.hB
  have M0 : M = B * B + 1 := K.hM
  have hSlt : S < B * B + 1 := by rw [hS, ← M0]; exact Nat.mod_lt _ (by omega)
  have rS' : Rs B S (sX X Y B1 B2 Cx + H) (sY X Y B1 B2 Cy + H) := by
    obtain ⟨l, hl⟩ := rS
    refine ⟨l, ?_⟩
    rw [hl]; unfold sX sY gx gy; grind
  have e88 : (2 : Int) ^ 88 < 2 ^ 220 := by decide
  obtain ⟨dx, dy⟩ := rS'.decode hSlt (by generalize (2 : Int) ^ 220 = f at *; omega) (by generalize (2 : Int) ^ 220 = f at *; omega)
  rw [← hsa] at dx
  rw [← hsb] at dy
  generalize hsx : sX X Y B1 B2 Cx = sx at *
  generalize hsy : sY X Y B1 B2 Cy = sy at *
  have rV' : Rs B V (vX X Y B1 B2 Cx Cy Dx) (vY X Y B1 B2 Cx Cy Dy) := by
    obtain ⟨l, hl⟩ := rV
    exact ⟨l, hl⟩
  generalize hvx : vX X Y B1 B2 Cx Cy Dx = vx at *
  generalize hvy : vY X Y B1 B2 Cx Cy Dy = vy at *
  have rSb : Rs B Sb sx (-sy) := by
    refine ⟨1, ?_⟩
    have hle : sb * B ≤ sa + KS := by
      have a1 : (sb : Int) ≤ B := by generalize (2 : Int) ^ 220 = f at *; omega
      have a2 : (sb : Int) * B ≤ B * B := Int.mul_le_mul_of_nonneg_right a1 (by omega)
      have a3 : (H : Int) ≤ H * B := by
        have : (H : Int) * 1 ≤ H * B := Int.mul_le_mul_of_nonneg_left (by omega) (by omega)
        omega
      have a4 := K.hK
      have : ((sb * B : Nat) : Int) ≤ ((sa + KS : Nat) : Int) := by rw [Int.natCast_mul, Int.natCast_add, a4]; omega
      exact_mod_cast this
    have : (Sb : Int) = (sa : Int) + KS - sb * B := by rw [hSb]; rw [Int.natCast_sub hle, Int.natCast_add, Int.natCast_mul]
    rw [this, K.hK, dx, dy]; grind
  have hnI : (n : Int) = sx * sx + sy * sy := by
    have a1 : (na : Int) = sx.natAbs := by rw [hna, ab_val]; congr 2; omega
    have a2 : (nb : Int) = sy.natAbs := by rw [hnb, ab_val]; congr 2; omega
    rw [hn, Int.natCast_add, Int.natCast_mul, Int.natCast_mul, a1, a2, Int.natAbs_mul_self' sx, Int.natAbs_mul_self' sy]
  have hN1 : ((na + nb : Nat) : Int) = sx.natAbs + sy.natAbs := by
    have a1 : (na : Int) = sx.natAbs := by rw [hna, ab_val]; congr 2; omega
    have a2 : (nb : Int) = sy.natAbs := by rw [hnb, ab_val]; congr 2; omega
    rw [Int.natCast_add, a1, a2]
  have rU := ((rV'.mul rSb).add K.hO).mod K.hM
  rw [← hU] at rU
  have hUlt : U < B * B + 1 := by rw [hU, ← M0]; exact Nat.mod_lt _ (by omega)
  have g1 := mulb bVx bSx
  have g2 := mulb bVy bSy
  have g3 := mulb bVy bSx
  have g4 := mulb bVx bSy
  have e216 : 2 * ((2 : Int) ^ 128 * 2 ^ 88) < 2 ^ 220 := by decide
  have rU' : Rs B U (vx * sx + vy * sy + H) (vy * sx - vx * sy + H) := by
    obtain ⟨l, hl⟩ := rU
    refine ⟨l, ?_⟩
    rw [hl]; grind
  obtain ⟨ux, uy⟩ := rU'.decode hUlt (by generalize (2 : Int) ^ 220 = f at *; generalize (2 : Int) ^ 128 * 2 ^ 88 = g at *; omega) (by generalize (2 : Int) ^ 220 = f at *; generalize (2 : Int) ^ 128 * 2 ^ 88 = g at *; omega)
  have n0 : 0 < n := by
    rcases Nat.eq_zero_or_pos n with h | h
    · exfalso; apply qa0; rw [hqa, h, Nat.div_zero]
    · exact h
  have fX := quo_floor n0 ux hqa qa0
  have fY := quo_floor n0 uy hqb qb0
  subst hsx hsy hvx hvy
  refine ⟨X, Y, (qa : Int) - 17592186044416, (qb : Int) - 17592186044416, w, n, na + nb, s, q, t, es, ev, dd, core, x + 17592186044416 - qa, y + 17592186044416 - qb, hX, hY, hwI, hw2, hnI, n0, hN1, ?_, fX, fY, ?_, ?_, ?_, ?_, ?_, hds, ?_, ?_, ?_, ?_⟩
  · rw [hs, Nat.shiftRight_eq_div_pow, show (2 : Nat) ^ 32 = 4294967296 from rfl]
    calc n / (na + nb) / 4294967296 * 4294967296 * (na + nb) ≤ n / (na + nb) * (na + nb) := Nat.mul_le_mul_right _ (Nat.div_mul_le_self _ _)
      _ ≤ n := Nat.div_mul_le_self _ _
  · rw [hq]
    have a1 := ab_val qa 17592186044416
    have a2 := ab_val qb 17592186044416
    omega
  · rw [ht]
    have a1 := ab_val (3 * x + b1) 70368744177664
    have a2 := ab_val (3 * y + b2) 70368744177664
    omega
  · rw [hes, Nat.shiftRight_eq_div_pow]
  · rw [hev, Nat.shiftRight_eq_div_pow]
  · rw [hdd, Nat.shiftRight_eq_div_pow]
  · rw [hcore, Nat.shiftRight_eq_div_pow]
  · omega
  · omega
  · rw [← Nat.shiftRight_eq_div_pow]; exact hk
end
end Go.Proofs.Ytalfkkagbajjcaa

/- A cubic's step of the reckoning holds the computed Newton step in its ball. Conditions: the terms are what the numbers say. -/
namespace Go.Proofs.Ytalfkkagbajjcaa
set_option linter.unusedSimpArgs false
set_option linter.unusedVariables false

/-- The unit of the fixed point. -/
def ee : Rat := 1 / 4294967296
theorem ee_pos : 0 < ee := by decide +kernel
theorem ee_32 : ee * 4294967296 = 1 := by decide +kernel
def cen (e : Rat) (x y : Nat) : Q2 := ⟨((x : Rat) - 17592186044416) * e, ((y : Rat) - 17592186044416) * e⟩

theorem A_int (i : Int) : A (i : Rat) = ((i.natAbs : Nat) : Rat) := by
  rcases Int.le_total 0 i with h | h
  · have h1 : ((i.natAbs : Nat) : Rat) = (i : Rat) := by rw [← Rat.intCast_natCast]; congr 1; omega
    rw [h1, A_of_nonneg (by exact_mod_cast h)]
  · have h1 : ((i.natAbs : Nat) : Rat) = -(i : Rat) := by rw [← Rat.intCast_natCast, ← Rat.intCast_neg]; congr 1; omega
    rw [h1, A_of_nonpos (by exact_mod_cast h)]
theorem A_intm (i : Int) {e : Rat} (he : 0 ≤ e) : A ((i : Rat) * e) = ((i.natAbs : Nat) : Rat) * e := by rw [A_mul, A_int, A_of_nonneg he]

theorem cubV_int (X Y b1 b2 cx cy dx dy : Int) (e : Rat) : cubV ⟨(X : Rat) * e, (Y : Rat) * e⟩ ⟨(b1 : Rat) * e, (b2 : Rat) * e⟩ ⟨(cx : Rat) * (e * e), (cy : Rat) * (e * e)⟩ ⟨(dx : Rat) * (e * e * e), (dy : Rat) * (e * e * e)⟩ =
    ⟨((vX X Y b1 b2 cx cy dx : Int) : Rat) * (e * e * e), ((vY X Y b1 b2 cx cy dy : Int) : Rat) * (e * e * e)⟩ := by
  apply q2e
  · simp only [cubV, one2, vX, gx, gy, re_add, im_add, re_mul, im_mul, Rat.intCast_add, Rat.intCast_mul, Rat.intCast_sub]; grind
  · simp only [cubV, one2, vY, gx, gy, re_add, im_add, re_mul, im_mul, Rat.intCast_add, Rat.intCast_mul, Rat.intCast_sub]; grind
theorem cubS_int (X Y b1 b2 cx cy : Int) (e : Rat) : cubS ⟨(X : Rat) * e, (Y : Rat) * e⟩ ⟨(b1 : Rat) * e, (b2 : Rat) * e⟩ ⟨(cx : Rat) * (e * e), (cy : Rat) * (e * e)⟩ =
    ⟨((sX X Y b1 b2 cx : Int) : Rat) * (e * e), ((sY X Y b1 b2 cy : Int) : Rat) * (e * e)⟩ := by
  apply q2e
  · simp only [cubS, three2, sX, gx, gy, re_add, im_add, re_mul, im_mul, Rat.intCast_add, Rat.intCast_mul, Rat.intCast_sub]; grind
  · simp only [cubS, three2, sY, gx, gy, re_add, im_add, re_mul, im_mul, Rat.intCast_add, Rat.intCast_mul, Rat.intCast_sub]; grind

/-- The quotient at the centre, and its whole parts. -/
theorem quo_cen {vx vy sx sy fx fy : Int} {n q : Nat} {e : Rat} (f : Rat) (he : 0 < e) (hn : (n : Int) = sx * sx + sy * sy) (n0 : 0 < n)
    (hx : fx * n ≤ vx * sx + vy * sy ∧ vx * sx + vy * sy < (fx + 1) * n) (hy : fy * n ≤ vy * sx - vx * sy ∧ vy * sx - vx * sy < (fy + 1) * n) (hq : (q : Int) = fx.natAbs + fy.natAbs + 2) :
    ∃ Q0 : Q2, Q0 * ⟨(sx : Rat) * f, (sy : Rat) * f⟩ = ⟨(vx : Rat) * (f * e), (vy : Rat) * (f * e)⟩ ∧ N Q0 ≤ (q : Rat) * e ∧ N (Q0 - ⟨(fx : Rat) * e, (fy : Rat) * e⟩) ≤ 2 * e := by
  have hnr : ((n : Nat) : Rat) = (sx : Rat) * sx + (sy : Rat) * sy := by rw [← Rat.intCast_natCast, hn]; simp only [Rat.intCast_add, Rat.intCast_mul]
  have n0' : (0 : Rat) < (n : Rat) := by exact_mod_cast n0
  have hni : (n : Rat) * (n : Rat)⁻¹ = 1 := Rat.mul_inv_cancel _ (by intro h; rw [h] at n0'; exact absurd n0' (by decide))
  have hx1 : (fx : Rat) * n ≤ (vx : Rat) * sx + (vy : Rat) * sy := by exact_mod_cast hx.1
  have hx2 : (vx : Rat) * sx + (vy : Rat) * sy < ((fx : Rat) + 1) * n := by exact_mod_cast hx.2
  have hy1 : (fy : Rat) * n ≤ (vy : Rat) * sx - (vx : Rat) * sy := by
    have : ((fy * n : Int) : Rat) ≤ ((vy * sx - vx * sy : Int) : Rat) := by exact_mod_cast hy.1
    simpa only [Rat.intCast_mul, Rat.intCast_sub, Rat.intCast_natCast] using this
  have hy2 : (vy : Rat) * sx - (vx : Rat) * sy < ((fy : Rat) + 1) * n := by
    have : ((vy * sx - vx * sy : Int) : Rat) < (((fy + 1) * n : Int) : Rat) := by exact_mod_cast hy.2
    simpa only [Rat.intCast_mul, Rat.intCast_sub, Rat.intCast_natCast, Rat.intCast_add, show ((1 : Int) : Rat) = 1 from rfl] using this
  generalize (n : Rat)⁻¹ = i at hni
  generalize hnn : (n : Rat) = m at *
  obtain ⟨a, ha⟩ : ∃ a : Rat, a * m = (vx : Rat) * sx + (vy : Rat) * sy := ⟨((vx : Rat) * sx + (vy : Rat) * sy) * i, by rw [Rat.mul_assoc, Rat.mul_comm i m, hni]; grind⟩
  obtain ⟨b, hb⟩ : ∃ b : Rat, b * m = (vy : Rat) * sx - (vx : Rat) * sy := ⟨((vy : Rat) * sx - (vx : Rat) * sy) * i, by rw [Rat.mul_assoc, Rat.mul_comm i m, hni]; grind⟩
  have a1 : (fx : Rat) ≤ a := lcancel_le n0' (by rw [ha]; exact hx1)
  have a2 : a ≤ (fx : Rat) + 1 := lcancel_le n0' (by rw [ha]; exact Rat.le_of_lt hx2)
  have b1 : (fy : Rat) ≤ b := lcancel_le n0' (by rw [hb]; exact hy1)
  have b2 : b ≤ (fy : Rat) + 1 := lcancel_le n0' (by rw [hb]; exact Rat.le_of_lt hy2)
  have hqr : ((q : Nat) : Rat) = ((fx.natAbs : Nat) : Rat) + ((fy.natAbs : Nat) : Rat) + 2 := by
    have : q = fx.natAbs + fy.natAbs + 2 := by omega
    rw [this, Rat.natCast_add, Rat.natCast_add]; rfl
  refine ⟨⟨a * e, b * e⟩, q2e ?_ ?_, ?_, ?_⟩
  · have key : (a * (sx : Rat) - b * (sy : Rat)) * m = (vx : Rat) * m := by
      have : (a * (sx : Rat) - b * (sy : Rat)) * m = a * m * sx - b * m * sy := by grind
      rw [this, ha, hb, hnr]; grind
    have k2 := rcancel n0' key
    simp only [re_mul]
    rw [← k2]; grind
  · have key : (a * (sy : Rat) + b * (sx : Rat)) * m = (vy : Rat) * m := by
      have : (a * (sy : Rat) + b * (sx : Rat)) * m = a * m * sy + b * m * sx := by grind
      rw [this, ha, hb, hnr]; grind
    have k2 := rcancel n0' key
    simp only [im_mul]
    rw [← k2]; grind
  · have c1 : A a ≤ ((fx.natAbs : Nat) : Rat) + 1 := by rw [← A_int]; have := le_A (fx : Rat); rw [A_le]; grind
    have c2 : A b ≤ ((fy.natAbs : Nat) : Rat) + 1 := by rw [← A_int]; have := le_A (fy : Rat); rw [A_le]; grind
    have e1' : N ⟨a * e, b * e⟩ = (A a + A b) * e := by
      show A (a * e) + A (b * e) = _
      rw [A_mul, A_mul, A_of_nonneg (Rat.le_of_lt he)]; grind
    rw [e1', hqr]
    exact Rat.mul_le_mul_of_nonneg_right (by grind) (Rat.le_of_lt he)
  · have e1' : N ((⟨a * e, b * e⟩ : Q2) - ⟨(fx : Rat) * e, (fy : Rat) * e⟩) = (A (a - fx) + A (b - fy)) * e := by
      show A (a * e - (fx : Rat) * e) + A (b * e - (fy : Rat) * e) = _
      rw [show a * e - (fx : Rat) * e = (a - fx) * e by grind, show b * e - (fy : Rat) * e = (b - fy) * e by grind, A_mul, A_mul, A_of_nonneg (Rat.le_of_lt he)]; grind
    rw [e1']
    refine Rat.mul_le_mul_of_nonneg_right ?_ (Rat.le_of_lt he)
    rw [A_of_nonneg (show 0 ≤ a - fx by grind), A_of_nonneg (show 0 ≤ b - fy by grind)]; grind

/-- Whole parts of quotients of natural numbers, as rational numbers. -/
theorem div_lt (a : Nat) {b : Nat} (hb : 0 < b) : ((a : Nat) : Rat) ≤ (((a / b : Nat) : Rat) + 1) * (b : Rat) := by
  have h1 := Nat.div_add_mod a b
  have h2 := Nat.mod_lt a hb
  have h3 : a ≤ (a / b + 1) * b := by rw [Nat.add_mul, Nat.mul_comm (a / b) b]; omega
  have h4 : ((a : Nat) : Rat) ≤ (((a / b + 1) * b : Nat) : Rat) := by exact_mod_cast h3
  rw [Rat.natCast_mul, Rat.natCast_add] at h4
  exact h4
end Go.Proofs.Ytalfkkagbajjcaa
