/- The values of drawn polynomials at any point, plainly: moduli, errors, exact products. Conditions: up to four drawn roots. -/
import Derived.Test.YtklonahkacikbaaU21
import Derived.Test.YtklonahkacikbaaU9
import Derived.Test.YtklonahkacikbaaU20
namespace Go.Proofs.Ytklonahkacikbaa
open Go
set_option linter.unusedSimpArgs false
set_option linter.unusedVariables false

theorem sqN_mul (x y : Q2) : sqN (x * y) = sqN x * sqN y := by unfold sqN; simp; grind
/-- The modulus is at most r. -/
def Ab (z : Q2) (r : Rat) : Prop := 0 ≤ r ∧ sqN z ≤ r * r
theorem Ab.mono {z : Q2} {r s : Rat} (h : Ab z r) (hrs : r ≤ s) : Ab z s := ⟨by have := h.1; grind, Rat.le_trans h.2 (mul_le hrs hrs h.1 (by have := h.1; grind))⟩
theorem Ab.of_N {z : Q2} {r : Rat} (h : N z ≤ r) : Ab z r := ⟨Rat.le_trans (N_nonneg z) h, Rat.le_trans (sqN_le z) (mul_le h h (N_nonneg z) (Rat.le_trans (N_nonneg z) h))⟩
theorem Ab.N {z : Q2} {r : Rat} (h : Ab z r) : N z ≤ 3 / 2 * r := by
  have a := sqN_ge z
  have b := h.2
  have c := Rat.mul_nonneg h.1 h.1
  refine sq_le_sq (by have := h.1; grind) ?_
  grind
theorem Ab.mul {x y : Q2} {r s : Rat} (hx : Ab x r) (hy : Ab y s) : Ab (x * y) (r * s) := by
  refine ⟨Rat.mul_nonneg hx.1 hy.1, ?_⟩
  rw [sqN_mul]
  have := mul_le hx.2 hy.2 (sqN_nonneg y) (Rat.mul_nonneg hx.1 hx.1)
  grind
theorem Ab.add {x y : Q2} {r s : Rat} (hx : Ab x r) (hy : Ab y s) : Ab (x + y) (r + s) := by
  have hr := hx.1
  have hs := hy.1
  refine ⟨by grind, ?_⟩
  have e : (x.re * y.re + x.im * y.im) * (x.re * y.re + x.im * y.im) + (x.re * y.im - x.im * y.re) * (x.re * y.im - x.im * y.re) = sqN x * sqN y := by unfold sqN; grind
  have q := sq_nonneg (x.re * y.im - x.im * y.re)
  have m := mul_le hx.2 hy.2 (sqN_nonneg y) (Rat.mul_nonneg hr hr)
  have rs := Rat.mul_nonneg hr hs
  have i : x.re * y.re + x.im * y.im ≤ r * s := sq_le_sq rs (by grind)
  have f : sqN (x + y) = sqN x + sqN y + 2 * (x.re * y.re + x.im * y.im) := by unfold sqN; simp; grind
  have a := hx.2
  have b := hy.2
  rw [f]
  grind
theorem Ab.neg {x : Q2} {r : Rat} (hx : Ab x r) : Ab (-x) r := ⟨hx.1, by have := hx.2; unfold sqN at *; simp; grind⟩
theorem Ab.sub {x y : Q2} {r s : Rat} (hx : Ab x r) (hy : Ab y s) : Ab (x - y) (r + s) := by
  have := hx.add hy.neg
  rwa [show x + -y = x - y from q2e (by simp; grind) (by simp; grind)] at this
theorem Ab.sc {x : Q2} {r k : Rat} (hx : Ab x r) (hk : 0 ≤ k) : Ab (sc k x) (k * r) := by
  refine ⟨Rat.mul_nonneg hk hx.1, ?_⟩
  have e : sqN (Go.Proofs.Ytklonahkacikbaa.sc k x) = k * k * sqN x := by unfold sqN; simp; grind
  rw [e]
  have := Rat.mul_le_mul_of_nonneg_left hx.2 (Rat.mul_nonneg hk hk)
  grind
theorem Ab.zero : Ab zero2 0 := ⟨by decide +kernel, by decide +kernel⟩
/-- 1 + w is at least 1 - W. -/
theorem one_add_ge {w : Q2} {W : Rat} (hw : Ab w W) (h1 : W ≤ 1) : (1 - W) * (1 - W) ≤ sqN (one2 + w) := by
  have a := sq_nonneg w.im
  have e : sqN (one2 + w) = (1 + w.re) * (1 + w.re) + w.im * w.im := by unfold sqN; simp [one2]; grind
  have b : w.re * w.re ≤ W * W := by have := hw.2; unfold sqN at this; grind
  have c : -W ≤ w.re := by
    have := sq_le_sq (a := -w.re) hw.1 (by grind)
    grind
  rw [e]
  have d := mul_le (a := 1 - W) (b := 1 + w.re) (c := 1 - W) (d := 1 + w.re) (by grind) (by grind) (by grind) (by grind)
  grind
/-- A quotient by 1 + w. -/
theorem Ab.div {k w v : Q2} {W r t : Rat} (h : k * (one2 + w) = v) (hw : Ab w W) (h1 : W < 1) (hv : Ab v r) (ht : r ≤ t * (1 - W)) (h0 : 0 ≤ t) : Ab k t := by
  refine ⟨h0, ?_⟩
  have a := one_add_ge hw (Rat.le_of_lt h1)
  have b : sqN k * sqN (one2 + w) ≤ r * r := by rw [← sqN_mul, h]; exact hv.2
  have c := Rat.mul_le_mul_of_nonneg_left a (sqN_nonneg k)
  have d := mul_le ht ht hv.1 (Rat.mul_nonneg h0 (by grind))
  have p : 0 < (1 - W) * (1 - W) := Rat.mul_pos (by grind) (by grind)
  refine lcancel_le p ?_
  grind
/-- The modulus is at least r. -/
def Lb (z : Q2) (r : Rat) : Prop := 0 ≤ r ∧ r * r ≤ sqN z
theorem Lb.mul {x y : Q2} {r s : Rat} (hx : Lb x r) (hy : Lb y s) : Lb (x * y) (r * s) := by
  refine ⟨Rat.mul_nonneg hx.1 hy.1, ?_⟩
  rw [sqN_mul]
  have := mul_le hx.2 hy.2 (Rat.mul_nonneg hy.1 hy.1) (sqN_nonneg x)
  grind
theorem Lb.mono {z : Q2} {r s : Rat} (h : Lb z r) (h0 : 0 ≤ s) (hrs : s ≤ r) : Lb z s := ⟨h0, Rat.le_trans (mul_le hrs hrs h0 h.1) h.2⟩
theorem Lb.of_re {z : Q2} {r : Rat} (h0 : 0 ≤ r) (h : r ≤ A z.re) : Lb z r := by
  refine ⟨h0, ?_⟩
  have a := mul_le h h h0 (A_nonneg z.re)
  have b := sq_nonneg z.im
  rw [← sq_A] at a
  unfold sqN
  grind
theorem Lb.N {z : Q2} {r : Rat} (h : Lb z r) : r ≤ N z := sq_le_sq (N_nonneg z) (Rat.le_trans h.2 (sqN_le z))
/-- A step's share of error. -/
def ud : Rat := 1 / 16777000
theorem ud_ok : u1 * (1 + 40 * ud) + p2 (-100) ≤ ud ∧ 0 < ud ∧ ud ≤ 1 / 1048576 ∧ 0 ≤ u1 ∧ e1 ≤ p2 (-100) * p2 (-20) ∧ 0 < p2 (-20) ∧ 0 < p2 (-100) ∧ p2 (-20) ≤ 1 := by decide +kernel
theorem ud_step {E P T Q : Rat} (hE : E ≤ ud * P) (hP : P ≤ 40 * T) (hT : p2 (-20) ≤ T) (hQ : Q ≤ T + E) : E + (u1 * Q + e1) ≤ ud * (P + T) := by
  obtain ⟨a, b, c, d, e, f, g, h⟩ := ud_ok
  generalize u1 = u1 at *
  generalize e1 = e1 at *
  generalize ud = ud at *
  generalize p2 (-20) = p20 at *
  generalize p2 (-100) = p100 at *
  have h1 : E ≤ 40 * ud * T := Rat.le_trans hE (by have := Rat.mul_le_mul_of_nonneg_left hP (Rat.le_of_lt b); grind)
  have h2 : u1 * Q ≤ u1 * ((1 + 40 * ud) * T) := Rat.mul_le_mul_of_nonneg_left (by grind) d
  have h3 : p100 * p20 ≤ p100 * T := Rat.mul_le_mul_of_nonneg_left hT (Rat.le_of_lt g)
  have h4 : (u1 * (1 + 40 * ud) + p100) * T ≤ ud * T := Rat.mul_le_mul_of_nonneg_right a (by grind)
  grind
/-- A number is told up to an error. -/
structure Apx (v : C2) (V : Q2) (P M : Rat) : Prop where
  f : fC v
  e : N (cv v - V) ≤ ud * P
  m : N V ≤ M
  p : P ≤ 40 * M
  l : p2 (-20) ≤ M
  h : M ≤ p2 40
theorem Apx.cvN {v : C2} {V : Q2} {P M : Rat} (h : Apx v V P M) : N (cv v) ≤ M + ud * P ∧ N (cv v) ≤ 2 * M := by
  obtain ⟨a, b, c, d, e, f, g, k⟩ := ud_ok
  have t := N_tri (cv v) V
  have h1 := h.e
  have h2 := h.m
  have h3 := Rat.mul_le_mul_of_nonneg_left h.p (Rat.le_of_lt b)
  have h4 := h.l
  have h5 : ud * (40 * M) ≤ 1 / 1048576 * (40 * M) := Rat.mul_le_mul_of_nonneg_right c (by grind)
  exact ⟨by grind, by grind⟩
theorem Apx.mono {v : C2} {V : Q2} {P M P' M' : Rat} (h : Apx v V P M) (h1 : P ≤ P') (h2 : M ≤ M') (h3 : P' ≤ 40 * M') (h4 : M' ≤ p2 40) : Apx v V P' M' := by
  obtain ⟨a, b, _⟩ := ud_ok
  have := Rat.mul_le_mul_of_nonneg_left h1 (Rat.le_of_lt b)
  exact ⟨h.f, Rat.le_trans h.e this, Rat.le_trans h.m h2, h3, Rat.le_trans h.l h2, h4⟩
theorem e_four {a b c d e r : Rat} (h1 : a ≤ b + c) (h2 : c ≤ d + e) (h3 : b ≤ r) : a ≤ d + e + r := by grind
theorem e_five {a b c r : Rat} (h1 : a ≤ b + c) (h3 : b ≤ r) : a ≤ c + r := by grind
theorem e_two {a b d P Q : Rat} (h1 : a ≤ d * P) (h2 : b ≤ d * Q) : a + b ≤ d * (P + Q) := by grind
theorem e_mul {d P L M : Rat} : d * P * L ≤ d * (P * L) := by grind
theorem p2_41 : p2 40 + p2 40 = p2 41 := p2_two 40
theorem Apx.add {x y : C2} {V W : Q2} {P M Q L : Rat} (hx : Apx x V P M) (hy : Apx y W Q L) (hp : P + Q + (M + L) ≤ 40 * (M + L)) (hb : M + L ≤ p2 40) : Apx (addC x y) (V + W) (P + Q + (M + L)) (M + L) := by
  obtain ⟨c1, c2⟩ := hx.cvN
  obtain ⟨d1, d2⟩ := hy.cvN
  have t := N_add (cv x) (cv y)
  have b1 : N (cv x + cv y) ≤ p2 41 := by rw [← p2_41]; grind
  have nr := addC_near hx.f hy.f (lt_of_p2 b1 (by decide))
  have l1 := hx.l
  have l2 := hy.l
  have f := ud_ok.2.2.2.2.2.1
  refine ⟨nr.1, ?_, Rat.le_trans (N_add V W) (by have := hx.m; have := hy.m; grind), hp, by grind, hb⟩
  have e1' : N (cv (addC x y) - (V + W)) ≤ N (cv x - V) + N (cv y - W) + (u1 * N (cv x + cv y) + e1) := by
    have a1 := N_add (cv (addC x y) - (cv x + cv y)) ((cv x - V) + (cv y - W))
    have a2 := N_add (cv x - V) (cv y - W)
    have a3 : cv (addC x y) - (cv x + cv y) + ((cv x - V) + (cv y - W)) = cv (addC x y) - (V + W) := by refine q2e ?_ ?_ <;> (simp; grind)
    rw [a3] at a1
    have h5 := nr.2
    exact e_four a1 a2 h5
  refine Rat.le_trans e1' (ud_step (P := P + Q) (T := M + L) ?_ (by have := hx.p; have := hy.p; grind) (by grind) ?_)
  · have h8 := hx.e; have h9 := hy.e; exact e_two h8 h9
  · have a1 := N_tri (cv x) V
    have a2 := N_tri (cv y) W
    have := hx.m; have := hy.m; grind
/-- Times an exact number. -/
theorem Apx.mul {x y : C2} {V : Q2} {P M L : Rat} (hx : Apx x V P M) (hy : fC y) (hL : N (cv y) ≤ L) (hL1 : p2 (-20) ≤ L) (hL2 : L ≤ p2 40) (hl : p2 (-20) ≤ M * L) (hp : P * L + M * L ≤ 40 * (M * L)) (hb : M * L ≤ p2 40) :
    fit2 (timesF x y) ∧ Apx (mulC x y) (V * cv y) (P * L + M * L) (M * L) := by
  obtain ⟨c1, c2⟩ := hx.cvN
  have l1 := hx.l
  have f := ud_ok.2.2.2.2.2.1
  have M0 : 0 ≤ M := by grind
  have L0 : 0 ≤ L := by grind
  have h41 := p2_41
  have e40 : 0 ≤ p2 40 := by decide +kernel
  have b1 : N (cv x) ≤ p2 41 := by rw [← p2_41]; have := hx.h; grind
  have t := N_mul (cv x) (cv y)
  have t2 : N (cv x) * N (cv y) ≤ 2 * (M * L) := by
    have := mul_le c2 hL (N_nonneg _) (by grind : (0:Rat) ≤ 2 * M)
    grind
  have b2 : N (cv x * cv y) ≤ p2 41 := by rw [← p2_41]; grind
  obtain ⟨fit, nr⟩ := mulC_near hx.f hy (lt_of_p2 b1 (by decide)) (lt_of_p2 (Rat.le_trans hL hL2) (by decide)) (lt_of_p2 b2 (by decide))
  have hd : N (cv x * cv y - V * cv y) ≤ ud * (P * L) := by
    have a0 : cv x * cv y - V * cv y = (cv x - V) * cv y := by refine q2e ?_ ?_ <;> (simp; grind)
    rw [a0]
    exact Rat.le_trans (N_mul _ _) (Rat.le_trans (mul_le hx.e hL (N_nonneg _) (Rat.le_trans (N_nonneg _) hx.e)) (e_mul (M := 0)))
  have hm : N (V * cv y) ≤ M * L := Rat.le_trans (N_mul _ _) (mul_le hx.m hL (N_nonneg _) M0)
  refine ⟨fit, nr.1, ?_, hm, hp, hl, hb⟩
  have e1' : N (cv (mulC x y) - V * cv y) ≤ N (cv x * cv y - V * cv y) + (u1 * N (cv x * cv y) + e1) := by
    have a1 := N_add (cv (mulC x y) - cv x * cv y) (cv x * cv y - V * cv y)
    have a3 : cv (mulC x y) - cv x * cv y + (cv x * cv y - V * cv y) = cv (mulC x y) - V * cv y := by refine q2e ?_ ?_ <;> (simp; grind)
    rw [a3] at a1
    have h5 := nr.2
    exact e_five a1 h5
  refine Rat.le_trans e1' (ud_step (P := P * L) (T := M * L) hd (by
    have := Rat.mul_le_mul_of_nonneg_right hx.p L0
    grind) hl ?_)
  have a1 := N_tri (cv x * cv y) (V * cv y)
  grind
theorem ap_exact {x : C2} {M : Rat} (hx : fC x) (h : N (cv x) ≤ M) (h1 : p2 (-20) ≤ M) (h2 : M ≤ p2 40) : Apx x (cv x) 0 M := by
  have f := ud_ok.2.2.2.2.2.1
  refine ⟨hx, ?_, h, by grind, h1, h2⟩
  have : N (cv x - cv x) = 0 := by
    have a0 : cv x - cv x = zero2 := by refine q2e ?_ ?_ <;> (simp [zero2]; grind)
    rw [a0]; decide +kernel
  rw [this]; grind
theorem cv0 : cv (0, 0) = zero2 := q2e (by decide +kernel) (by decide +kernel)
theorem getD_over {F : List C2} {j : Nat} (h : F.length ≤ j) : F.getD j (0, 0) = (0, 0) := by
  simp only [List.getD]; rw [List.getElem?_eq_none h]; rfl
/-- The bounds of the drawn polynomials' terms. -/
def bq (n j : Nat) : Rat := if j ≤ n then ((bt n j : Nat) : Rat) * p2 (3 * ((j : Int) - (n : Int))) + 1 / 1024 else 1 / 1024
theorem bq_tab : ∀ n, n < 5 → ∀ j, j < 5 → p2 (-10) ≤ bq n j ∧ bq n j ≤ p2 12 := by decide +kernel
theorem bq_ok {n : Nat} (h4 : n ≤ 4) (j : Nat) : p2 (-10) ≤ bq n j ∧ bq n j ≤ p2 12 := by
  by_cases hj : j < 5
  · exact bq_tab n (by omega) j hj
  · have : bq n j = 1 / 1024 := if_neg (by omega)
    rw [this]; decide +kernel
/-- Horner's rule on values. -/
def hV (V : Nat → Q2) (Z : Q2) : Nat → Q2 → Q2 | 0, a => a | k + 1, a => hV V Z k (a * Z + V k)
section
variable (X : Nat → Int × Int) (z : Q2)
def gq (X : Nat → Int × Int) (z : Q2) (j : Nat) : Q2 := z - rq X j
theorem glev1 : v1 (cq X 1 0) (cq X 1 1) z = (VV (gq X z) 1).1 ∧ cq X 1 1 = (VV (gq X z) 1).2.1 := by
  have e0 : cq X 0 0 = one2 := cq_top X 0
  have e1 : cq X 1 1 = one2 := cq_top X 1
  have e2 := cq_low X 0
  rw [e0] at e2
  rw [e1, e2]
  refine ⟨q2e ?_ ?_, q2e ?_ ?_⟩ <;> (simp [VV, v1, gq, one2, zero2]; try grind)
theorem glev2 : v2 (cq X 2 0) (cq X 2 1) (cq X 2 2) z = (VV (gq X z) 2).1 ∧ v1 (cq X 2 1) (sc 2 (cq X 2 2)) z = (VV (gq X z) 2).2.1 := by
  obtain ⟨a, b⟩ := glev1 X z
  obtain ⟨u, v, _⟩ := up1 (cq X 1 0) (cq X 1 1) z (rq X 1)
  rw [cq_low, cq_up X 1 0, cq_same X 1]
  refine ⟨?_, ?_⟩
  · rw [u, a]; rfl
  · rw [v, a]; conv => lhs; rw [b]
    rfl
theorem glev3 : v3 (cq X 3 0) (cq X 3 1) (cq X 3 2) (cq X 3 3) z = (VV (gq X z) 3).1 ∧ v2 (cq X 3 1) (sc 2 (cq X 3 2)) (sc 3 (cq X 3 3)) z = (VV (gq X z) 3).2.1 := by
  obtain ⟨a, b⟩ := glev2 X z
  obtain ⟨u, v, _⟩ := up2 (cq X 2 0) (cq X 2 1) (cq X 2 2) z (rq X 2)
  rw [cq_low, cq_up X 2 0, cq_up X 2 1, cq_same X 2]
  exact ⟨by rw [u, a]; rfl, by rw [v, a, b]; rfl⟩
theorem glev4 : v4 (cq X 4 0) (cq X 4 1) (cq X 4 2) (cq X 4 3) (cq X 4 4) z = (VV (gq X z) 4).1 ∧ v3 (cq X 4 1) (sc 2 (cq X 4 2)) (sc 3 (cq X 4 3)) (sc 4 (cq X 4 4)) z = (VV (gq X z) 4).2.1 := by
  obtain ⟨a, b⟩ := glev3 X z
  obtain ⟨u, v, _⟩ := up3 (cq X 3 0) (cq X 3 1) (cq X 3 2) (cq X 3 3) z (rq X 3)
  rw [cq_low, cq_up X 3 0, cq_up X 3 1, cq_up X 3 2, cq_same X 3]
  exact ⟨by rw [u, a]; rfl, by rw [v, a, b]; rfl⟩
end
theorem hV_cq (X : Nat → Int × Int) {n : Nat} (h1 : 1 ≤ n) (h4 : n ≤ 4) (t : Nat → Q2) (ht : ∀ j, j ≤ n → t j = cq X n j) (z : Q2) : hV t z n (t n) = (VV (gq X z) n).1 := by
  rcases (by omega : n = 1 ∨ n = 2 ∨ n = 3 ∨ n = 4) with rfl | rfl | rfl | rfl
  · rw [← (glev1 X z).1]; simp only [hV, v1, ht 0 (by omega), ht 1 (by omega)]
  · rw [← (glev2 X z).1]; simp only [hV, v2, ht 0 (by omega), ht 1 (by omega), ht 2 (by omega)]
  · rw [← (glev3 X z).1]; simp only [hV, v3, ht 0 (by omega), ht 1 (by omega), ht 2 (by omega), ht 3 (by omega)]
  · rw [← (glev4 X z).1]; simp only [hV, v4, ht 0 (by omega), ht 1 (by omega), ht 2 (by omega), ht 3 (by omega), ht 4 (by omega)]
/-- Horner's bounds where the point's size is at most L: of the value, of its share of error, j steps from the top. -/
def mB (n : Nat) (L : Rat) : Nat → Rat | 0 => bq n n | j + 1 => mB n L j * L + bq n (n - (j + 1))
def pB (n : Nat) (L : Rat) : Nat → Rat | 0 => 0 | j + 1 => pB n L j * L + mB n L j * L + 0 + (mB n L j * L + bq n (n - (j + 1)))
def TabL (n : Nat) (L : Rat) : Prop := p2 (-20) ≤ L ∧ L ≤ p2 40 ∧ ∀ j, j < n → p2 (-20) ≤ mB n L j * L ∧ pB n L j * L + mB n L j * L ≤ 40 * (mB n L j * L) ∧ mB n L j * L ≤ p2 40 ∧ pB n L (j + 1) ≤ 40 * mB n L (j + 1) ∧ mB n L (j + 1) ≤ p2 40
theorem horner_apL {F : List C2} {z : C2} {V : Nat → Q2} {n : Nat} {L : Rat} (hT : TabL n L) (h4 : n ≤ 4) (hz : fC z) (hn : N (cv z) ≤ L) (hF : ∀ i, i < n → fC (F.getD i (0, 0)) ∧ N (cv (F.getD i (0, 0))) ≤ bq n i ∧ cv (F.getD i (0, 0)) = V i) (k : Nat) :
    ∀ (j : Nat) (a : C2) (A : Q2), k + j = n → Apx a A (pB n L j) (mB n L j) → safeH F z k a ∧ Apx (horner F z k a) (hV V (cv z) k A) (pB n L n) (mB n L n) := by
  obtain ⟨l1, l2, ht⟩ := hT
  induction k with
  | zero =>
    intro j a A hj ha
    obtain rfl : j = n := by omega
    exact ⟨trivial, ha⟩
  | succ k ih =>
    intro j a A hj ha
    obtain ⟨t1, t2, t3, t4, t5⟩ := ht j (by omega)
    obtain ⟨fit, mu⟩ := ha.mul hz hn l1 l2 t1 t2 t3
    obtain ⟨f1, f2, f3⟩ := hF k (by omega)
    obtain ⟨b1, b2⟩ := bq_ok h4 k
    have ex := ap_exact f1 f2 (Rat.le_trans (by decide +kernel) b1) (Rat.le_trans b2 (by decide +kernel))
    rw [f3] at ex
    have e : n - (j + 1) = k := by omega
    have em : mB n L (j + 1) = mB n L j * L + bq n k := by rw [← e]; rfl
    have ep : pB n L (j + 1) = pB n L j * L + mB n L j * L + 0 + (mB n L j * L + bq n k) := by rw [← e]; rfl
    have ad := mu.add ex (by rw [em, ep] at t4; exact t4) (by rw [em] at t5; exact t5)
    rw [← ep, ← em] at ad
    obtain ⟨s1, s2⟩ := ih (j + 1) (addC (mulC a z) (F.getD k (0, 0))) _ (by omega) ad
    exact ⟨⟨fit, s1⟩, s2⟩
section
variable {ls : List C2} {X : Nat → Int × Int}
/-- The drawn polynomial's terms. -/
theorem DX.terms (h : DX ls X) (h4 : ls.length ≤ 4) {j : Nat} (hj : j ≤ ls.length) : fC ((rootsL (ls.map nc) ls.length).getD j (0, 0)) ∧ N (cv ((rootsL (ls.map nc) ls.length).getD j (0, 0))) ≤ bq ls.length j ∧
    cv ((rootsL (ls.map nc) ls.length).getD j (0, 0)) = cq X ls.length j := by
  have g := (roots_exact h.b h4 h.g).1 j
  rw [catF_in] at g
  have v : cv ((rootsL (ls.map nc) ls.length).getD j (0, 0)) = cq X ls.length j := by
    rw [g.2]
    have e : -((3 * (ls.length - j) : Nat) : Int) = 3 * ((j : Int) - (ls.length : Int)) := by omega
    rw [e]; rfl
  refine ⟨g.1, ?_, v⟩
  rw [v]
  have c : N (cq X ls.length j) = ((nz (cz X ls.length j) : Nat) : Rat) * p2 (3 * ((j : Int) - (ls.length : Int))) := nS_pure _ (Rat.le_of_lt (p2_pos _)) (by unfold nz; omega)
  have d := cz_bt (fun i hi => nb_ok h h4 hi) ls.length j (Nat.le_refl _)
  have e : ((nz (cz X ls.length j) : Nat) : Rat) * p2 (3 * ((j : Int) - (ls.length : Int))) ≤ ((bt ls.length j : Nat) : Rat) * p2 (3 * ((j : Int) - (ls.length : Int))) := Rat.mul_le_mul_of_nonneg_right (by exact_mod_cast d) (Rat.le_of_lt (p2_pos _))
  have f : bq ls.length j = ((bt ls.length j : Nat) : Rat) * p2 (3 * ((j : Int) - (ls.length : Int))) + 1 / 1024 := if_pos hj
  rw [c, f]
  grind
/-- The exact value: the product of the distances from the roots. -/
def pv (X : Nat → Int × Int) (n : Nat) (z : Q2) : Q2 := (VV (gq X z) n).1
/-- The value at a point whose size is at most L. -/
theorem DX.value (h : DX ls X) (h1 : 1 ≤ ls.length) (h4 : ls.length ≤ 4) {L : Rat} (hT : TabL ls.length L) {z : C2} (hz : fC z) (hn : N (cv z) ≤ L) :
    safeN (rootsL (ls.map nc) ls.length) z ∧ fC (nestedF (rootsL (ls.map nc) ls.length) z) ∧ N (cv (nestedF (rootsL (ls.map nc) ls.length) z) - pv X ls.length (cv z)) ≤ ud * pB ls.length L ls.length ∧ N (pv X ls.length (cv z)) ≤ mB ls.length L ls.length := by
  have hl : (rootsL (ls.map nc) ls.length).length - 1 = ls.length := by rw [rootsL_length]; omega
  have ht := fun j hj => h.terms h4 (j := j) hj
  obtain ⟨f1, f2, f3⟩ := ht ls.length (Nat.le_refl _)
  obtain ⟨b1, b2⟩ := bq_ok h4 ls.length
  have ex := ap_exact f1 f2 (Rat.le_trans (by decide +kernel) b1) (Rat.le_trans b2 (by decide +kernel))
  have hv := hV_cq X h1 h4 (fun j => cv ((rootsL (ls.map nc) ls.length).getD j (0, 0))) (fun j hj => (ht j hj).2.2) (cv z)
  obtain ⟨s1, s2⟩ := horner_apL (V := fun j => cv ((rootsL (ls.map nc) ls.length).getD j (0, 0))) hT h4 hz hn (fun i hi => ⟨(ht i (by omega)).1, (ht i (by omega)).2.1, rfl⟩) ls.length 0 _ _ (by omega) ex
  unfold safeN nestedF
  rw [hl]
  refine ⟨s1, s2.f, ?_, ?_⟩
  · have := s2.e; rw [hv] at this; exact this
  · have := s2.m; rw [hv] at this; exact this
end
end Go.Proofs.Ytklonahkacikbaa

/- The turns around each place of a drawn root along the great box: tangents and their sum, in rational numbers. Conditions: none. -/
namespace Go.Proofs.Ytklonahkacikbaa
open Go
set_option linter.unusedSimpArgs false
set_option linter.unusedVariables false

theorem okR_of {k : Nat} (hk : k < 4) {a b : Int} (a1 : 8 * (k : Int) - 12 ≤ a) (a2 : a ≤ 8 * (k : Int) - 8) (b1 : -8 ≤ b) (b2 : b ≤ 8) : okR a b = true := by
  have h := okK_true k hk
  unfold okK at h
  rw [List.all_eq_true] at h
  have h2 := h (a - (8 * (k : Int) - 12)).toNat (List.mem_range.2 (by omega))
  rw [List.all_eq_true] at h2
  have h3 := h2 (b + 8).toNat (List.mem_range.2 (by omega))
  rw [show 8 * (k : Int) - 12 + ((a - (8 * (k : Int) - 12)).toNat : Int) = a by omega, show ((b + 8).toNat : Int) - 8 = b by omega] at h3
  exact h3
/-- A sum of n numbers. -/
def sumN (f : Nat → Rat) : Nat → Rat | 0 => 0 | i + 1 => sumN f i + f i
theorem sumN_front (f : Nat → Rat) (n : Nat) : sumN f (n + 1) = f 0 + sumN (fun i => f (i + 1)) n := by
  induction n with
  | zero => simp [sumN]; grind
  | succ n ih => rw [sumN, ih, sumN]; grind
theorem sumN_near {f g : Nat → Rat} {e : Rat} (n : Nat) (h : ∀ i, i < n → A (f i - g i) ≤ e) : A (sumN f n - sumN g n) ≤ (n : Rat) * e := by
  induction n with
  | zero => simp [sumN]; decide +kernel
  | succ n ih =>
    have a := ih (fun i hi => h i (by omega))
    have b := h n (by omega)
    have c := abs_a a b
    rw [show sumN f n - sumN g n + (f n - g n) = sumN f (n + 1) - sumN g (n + 1) by simp only [sumN]; grind] at c
    rw [Rat.natCast_add, show ((1 : Nat) : Rat) = 1 from rfl]
    grind
theorem sumN_add (f g : Nat → Rat) (n : Nat) : sumN (fun i => f i + g i) n = sumN f n + sumN g n := by
  induction n with
  | zero => show (0 : Rat) = 0 + 0; decide +kernel
  | succ n ih => simp only [sumN, ih]; grind
theorem sumN_mul (c : Rat) (f : Nat → Rat) (n : Nat) : sumN (fun i => c * f i) n = c * sumN f n := by
  induction n with
  | zero => show (0 : Rat) = c * 0; grind
  | succ n ih => simp only [sumN, ih]; grind
def c24 : Rat := 1 / 16777216
def c120 : Rat := 15 * 1329227995784915872903807060280344576
theorem tJ5_val (f : Int) : ((tJ5 f : Int) : Rat) = c120 * T5 ((f : Rat) * c24) := by
  have e : tJ5 f = f * (1188422437713965063903159255040 + (f * f) * (3 * (f * f) - 1407374883553280)) := rfl
  rw [e]
  simp only [Rat.intCast_mul, Rat.intCast_add, Rat.intCast_sub]
  unfold T5 c24 c120
  have e1 : ((1188422437713965063903159255040 : Int) : Rat) = 1188422437713965063903159255040 := rfl
  have e2 : ((1407374883553280 : Int) : Rat) = 1407374883553280 := rfl
  have e3 : ((3 : Int) : Rat) = 3 := rfl
  rw [e1, e2, e3]
  grind
/-- The tangent of a step. -/
def tJ (a b : Int) (p q : Int × Int) : Rat := (tJ1 a b p.1 p.2 q.1 q.2 : Rat) * ((tJ2 a b p.1 p.2 q.1 q.2 : Rat))⁻¹
structure OkJ (a b : Int) (p q : Int × Int) : Prop where
  d : 0 < tJ2 a b p.1 p.2 q.1 q.2
  n : 0 ≤ tJ1 a b p.1 p.2 q.1 q.2
  l : tJ1 a b p.1 p.2 q.1 q.2 * 16777216 ≤ 1120000 * tJ2 a b p.1 p.2 q.1 q.2
theorem OkJ.tan {a b : Int} {p q : Int × Int} (h : OkJ a b p q) : tJ a b p q * (tJ2 a b p.1 p.2 q.1 q.2 : Rat) = (tJ1 a b p.1 p.2 q.1 q.2 : Rat) ∧ 0 ≤ tJ a b p q ∧ tJ a b p q ≤ 668 / 10000 := by
  have dp : (0 : Rat) < (tJ2 a b p.1 p.2 q.1 q.2 : Rat) := by exact_mod_cast h.d
  have e : tJ a b p q * (tJ2 a b p.1 p.2 q.1 q.2 : Rat) = (tJ1 a b p.1 p.2 q.1 q.2 : Rat) := by
    unfold tJ
    rw [Rat.mul_assoc, Rat.inv_mul_cancel _ (by grind), Rat.mul_one]
  have n0 : (0 : Rat) ≤ (tJ1 a b p.1 p.2 q.1 q.2 : Rat) := by exact_mod_cast h.n
  have l0 : (tJ1 a b p.1 p.2 q.1 q.2 : Rat) * 16777216 ≤ 1120000 * (tJ2 a b p.1 p.2 q.1 q.2 : Rat) := by
    have l1 : ((tJ1 a b p.1 p.2 q.1 q.2 * 16777216 : Int) : Rat) ≤ ((1120000 * tJ2 a b p.1 p.2 q.1 q.2 : Int) : Rat) := Rat.intCast_le_intCast.2 h.l
    rw [Rat.intCast_mul, Rat.intCast_mul] at l1
    exact l1
  exact ⟨e, lcancel_le dp (by rw [e]; grind), lcancel_le dp (by rw [e]; grind)⟩
theorem OkJ.near {a b : Int} {p q : Int × Int} (h : OkJ a b p q) : A (T5 (tJ a b p q) - T5 ((tJf a b p.1 p.2 q.1 q.2 : Rat) * c24)) ≤ 1 / 8388608 := by
  obtain ⟨t1, t2, t3⟩ := h.tan
  have dp : (0 : Rat) < (tJ2 a b p.1 p.2 q.1 q.2 : Rat) := by exact_mod_cast h.d
  have e : tJf a b p.1 p.2 q.1 q.2 = tJ1 a b p.1 p.2 q.1 q.2 * 16777216 / tJ2 a b p.1 p.2 q.1 q.2 := rfl
  have m1 := Int.emod_nonneg (tJ1 a b p.1 p.2 q.1 q.2 * 16777216) (Int.ne_of_gt h.d)
  have m2 := Int.emod_lt_of_pos (tJ1 a b p.1 p.2 q.1 q.2 * 16777216) h.d
  have m3 := Int.mul_ediv_add_emod (tJ1 a b p.1 p.2 q.1 q.2 * 16777216) (tJ2 a b p.1 p.2 q.1 q.2)
  rw [← e] at m3
  have r1 : (0 : Rat) ≤ ((tJ1 a b p.1 p.2 q.1 q.2 * 16777216 % tJ2 a b p.1 p.2 q.1 q.2 : Int) : Rat) := by rw [show (0 : Rat) = ((0 : Int) : Rat) from rfl]; exact Rat.intCast_le_intCast.2 m1
  have r2 : ((tJ1 a b p.1 p.2 q.1 q.2 * 16777216 % tJ2 a b p.1 p.2 q.1 q.2 : Int) : Rat) ≤ (tJ2 a b p.1 p.2 q.1 q.2 : Rat) := Rat.intCast_le_intCast.2 (Int.le_of_lt m2)
  have r3 : (tJ2 a b p.1 p.2 q.1 q.2 : Rat) * (tJf a b p.1 p.2 q.1 q.2 : Rat) + ((tJ1 a b p.1 p.2 q.1 q.2 * 16777216 % tJ2 a b p.1 p.2 q.1 q.2 : Int) : Rat) = (tJ1 a b p.1 p.2 q.1 q.2 : Rat) * 16777216 := by
    have := congrArg (fun x : Int => (x : Rat)) m3
    simp only [Rat.intCast_add, Rat.intCast_mul] at this
    exact this
  generalize ((tJ1 a b p.1 p.2 q.1 q.2 * 16777216 % tJ2 a b p.1 p.2 q.1 q.2 : Int) : Rat) = R at *
  generalize (tJf a b p.1 p.2 q.1 q.2 : Rat) = f at *
  generalize (tJ2 a b p.1 p.2 q.1 q.2 : Rat) = D at *
  generalize (tJ1 a b p.1 p.2 q.1 q.2 : Rat) = M at *
  generalize tJ a b p q = t at *
  clear m1 m2 m3 e h
  have lo : 0 ≤ t - f * c24 := lcancel_le dp (by unfold c24; grind)
  have hi : t - f * c24 ≤ c24 := lcancel_le dp (by unfold c24; grind)
  have hA : A (t - f * c24) ≤ c24 := by rw [A_of_nonneg lo]; exact hi
  have c : c24 ≤ 1 / 100 ∧ 2 * c24 ≤ 1 / 8388608 := by decide +kernel
  have tA : A t ≤ 1 / 2 := by rw [A_of_nonneg t2]; grind
  have fA : A (f * c24) ≤ 1 / 2 := by
    refine A_le.2 ⟨by grind, by grind⟩
  exact Rat.le_trans (t5_lip tA fA hA) c.2
theorem sum_steps {a b : Int} : ∀ (l : List (Int × Int)) (x y : Int), allJ a b x y l = true → ∀ P : Nat → Int × Int, (∀ i, i ≤ l.length → P i = ((x, y) :: l).getD i (0, 0)) →
    (∀ i, i < l.length → OkJ a b (P i) (P (i + 1))) ∧ A (c120 * sumN (fun i => T5 (tJ a b (P i) (P (i + 1)))) l.length - (sumJ a b x y l : Rat)) ≤ (l.length : Rat) * (c120 * (1 / 8388608))
  | [], x, y, _, P, hP => ⟨fun i hi => absurd hi (by simp), by
      simp only [List.length_nil, sumN]
      rw [show sumJ a b x y [] = 0 from rfl]
      decide +kernel⟩
  | (u, v) :: l, x, y, h, P, hP => by
    have h0 : P 0 = (x, y) := by rw [hP 0 (by simp)]; rfl
    have h1 : P 1 = (u, v) := by rw [hP 1 (by simp)]; rfl
    have h' : (decide (0 < tJ2 a b x y u v) && (decide (0 ≤ tJ1 a b x y u v) && (decide (Int.mul (tJ1 a b x y u v) 16777216 ≤ Int.mul 1120000 (tJ2 a b x y u v)) && allJ a b u v l))) = true := h
    simp only [Bool.and_eq_true, decide_eq_true_eq] at h'
    obtain ⟨k1, k2, k3, k4⟩ := h'
    have ok : OkJ a b (P 0) (P 1) := by rw [h0, h1]; exact ⟨k1, k2, k3⟩
    obtain ⟨i1, i2⟩ := sum_steps l u v k4 (fun i => P (i + 1)) (fun i hi => by
      show P (i + 1) = _
      rw [hP (i + 1) (by simp; omega)]; rfl)
    refine ⟨fun i hi => ?_, ?_⟩
    · cases i with
      | zero => exact ok
      | succ i => exact i1 i (by simp at hi; omega)
    · have nr := ok.near
      have e0 : (sumJ a b x y ((u, v) :: l) : Rat) = (tJ5 (tJf a b x y u v) : Rat) + (sumJ a b u v l : Rat) := by
        rw [← Rat.intCast_add]; rfl
      have e1 : (tJ5 (tJf a b x y u v) : Rat) = c120 * T5 ((tJf a b x y u v : Rat) * c24) := tJ5_val _
      have cp : 0 ≤ c120 := by decide +kernel
      rw [List.length_cons, sumN_front, e0, e1, Rat.natCast_add, show ((1 : Nat) : Rat) = 1 from rfl]
      have m := abs_k (k := c120) cp nr
      have s := abs_a m i2
      show A (c120 * (T5 (tJ a b (P 0) (P (0 + 1))) + sumN (fun i => T5 (tJ a b (P (i + 1)) (P (i + 1 + 1)))) l.length) - _) ≤ _
      rw [h0, h1] at s ⊢
      rw [show c120 * (T5 (tJ a b (x, y) (u, v)) - T5 ((tJf a b (x, y).1 (x, y).2 (u, v).1 (u, v).2 : Rat) * c24)) + (c120 * sumN (fun i => T5 (tJ a b (P (i + 1)) (P (i + 1 + 1)))) l.length - (sumJ a b u v l : Rat)) = c120 * (T5 (tJ a b (x, y) (u, v)) + sumN (fun i => T5 (tJ a b (P (i + 1)) (P (i + 1 + 1)))) l.length) - (c120 * T5 ((tJf a b x y u v : Rat) * c24) + (sumJ a b u v l : Rat)) by grind] at s
      grind
/-- The points. -/
def bxP (i : Nat) : Int × Int := ((-16842752, -16809984) :: bxL).getD i (0, 0)
theorem bxL_len : bxL.length = 160 := by decide +kernel
/-- A turn, in the program's number for it. -/
def kap : Rat := 884279719003555 / 140737488355328
theorem turn_of {k : Nat} (hk : k < 4) {a b : Int} (a1 : 8 * (k : Int) - 12 ≤ a) (a2 : a ≤ 8 * (k : Int) - 8) (b1 : -8 ≤ b) (b2 : b ≤ 8) :
    (∀ i, i < 160 → OkJ (a * 262144) (b * 262144) (bxP i) (bxP (i + 1))) ∧ A (sumN (fun i => T5 (tJ (a * 262144) (b * 262144) (bxP i) (bxP (i + 1)))) 160 - kap) ≤ 1 / 20000 := by
  have h := okR_of hk a1 a2 b1 b2
  unfold okR at h
  rw [Bool.and_eq_true] at h
  obtain ⟨h1, h2⟩ := h
  obtain ⟨s1, s2⟩ := sum_steps bxL _ _ h1 bxP (fun i _ => rfl)
  rw [bxL_len] at s1 s2
  refine ⟨s1, ?_⟩
  unfold inJ at h2
  simp only [Bool.and_eq_true, decide_eq_true_eq] at h2
  obtain ⟨n1, n2⟩ := h2
  generalize sumJ (a * 262144) (b * 262144) (-16842752) (-16809984) bxL = s at *
  have m1 : ((15 * 2 ^ 73 * 884279719003555 - 2 ^ 108 : Int) : Rat) ≤ (s : Rat) := Rat.intCast_le_intCast.2 n1
  have m2 : (s : Rat) ≤ ((15 * 2 ^ 73 * 884279719003555 : Int) : Rat) := Rat.intCast_le_intCast.2 n2
  have e1 : ((15 * 2 ^ 73 * 884279719003555 - 2 ^ 108 : Int) : Rat) = c120 * (kap - 1 / 61440) := by decide +kernel
  have e2 : ((15 * 2 ^ 73 * 884279719003555 : Int) : Rat) = c120 * kap := by decide +kernel
  rw [e1] at m1
  rw [e2] at m2
  have cp : 0 < c120 := by decide +kernel
  generalize sumN (fun i => T5 (tJ (a * 262144) (b * 262144) (bxP i) (bxP (i + 1)))) 160 = S at *
  have b := le_A (c120 * S - (s : Rat))
  have l160 : ((160 : Nat) : Rat) = 160 := rfl
  rw [l160] at s2
  have q1 : S - kap ≤ 160 * (1 / 8388608) := by
    refine lcancel_le (c := c120) cp ?_
    grind
  have q2 : -(S - kap) ≤ 160 * (1 / 8388608) + 1 / 61440 := by
    refine lcancel_le (c := c120) cp ?_
    grind
  exact A_le.2 ⟨Rat.le_trans q1 (by decide +kernel), by
    have : 160 * (1 / 8388608) + 1 / 61440 ≤ (1 : Rat) / 20000 := by decide +kernel
    grind⟩
end Go.Proofs.Ytklonahkacikbaa

/- The values of drawn polynomials on the edges of boxes, plainly: not too small, not too great. Conditions: up to four drawn roots; edges away from the eighths. -/
namespace Go.Proofs.Ytklonahkacikbaa
open Go
set_option linter.unusedSimpArgs false
set_option linter.unusedVariables false

theorem Lb.of_im {z : Q2} {r : Rat} (h0 : 0 ≤ r) (h : r ≤ A z.im) : Lb z r := by
  refine ⟨h0, ?_⟩
  have a := mul_le h h h0 (A_nonneg z.im)
  have b := sq_nonneg z.re
  rw [← sq_A] at a
  unfold sqN
  grind
/-- The least distance of a number from the places of a root, its real part and its imaginary part. -/
def mn (x y : Rat) : Rat := if x ≤ y then x else y
theorem mn_le {x y : Rat} : mn x y ≤ x ∧ mn x y ≤ y := by unfold mn; split <;> constructor <;> grind
def dmn (x : Rat) (j : Nat) : Rat := (List.range 5).foldl (fun (m : Rat) (a : Nat) => mn m (A (x - (8 * (j : Rat) - 12 + (a : Rat)) / 8))) 100
def dmy (y : Rat) : Rat := (List.range 17).foldl (fun (m : Rat) (b : Nat) => mn m (A (y - ((b : Rat) - 8) / 8))) 100
theorem fold_le (g : Nat → Rat) : ∀ (l : List Nat) (m : Rat), l.foldl (fun m a => mn m (g a)) m ≤ m ∧ ∀ a, a ∈ l → l.foldl (fun m a => mn m (g a)) m ≤ g a
  | [], m => ⟨Rat.le_refl, fun a h => by cases h⟩
  | b :: l, m => by
    obtain ⟨h1, h2⟩ := fold_le g l (mn m (g b))
    refine ⟨Rat.le_trans h1 mn_le.1, fun a ha => ?_⟩
    rcases List.mem_cons.1 ha with rfl | ha
    · exact Rat.le_trans h1 mn_le.2
    · exact h2 a ha
theorem dmn_le {x : Rat} {j : Nat} {a : Int} (h1 : 8 * (j : Int) - 12 ≤ a) (h2 : a ≤ 8 * (j : Int) - 8) : dmn x j ≤ A (x - (a : Rat) * p2 (-3)) := by
  have h := (fold_le (fun a : Nat => A (x - (8 * (j : Rat) - 12 + (a : Rat)) / 8)) (List.range 5) 100).2 (a - (8 * (j : Int) - 12)).toNat (List.mem_range.2 (by omega))
  have e : (8 * (j : Rat) - 12 + (((a - (8 * (j : Int) - 12)).toNat : Nat) : Rat)) / 8 = (a : Rat) * p2 (-3) := by
    have e1 : (((a - (8 * (j : Int) - 12)).toNat : Nat) : Rat) = ((a - (8 * (j : Int) - 12) : Int) : Rat) := by
      rw [← Rat.intCast_natCast, show (((a - (8 * (j : Int) - 12)).toNat : Nat) : Int) = a - (8 * (j : Int) - 12) by omega]
    rw [e1, Rat.intCast_sub, Rat.intCast_sub, Rat.intCast_mul, Rat.intCast_natCast, p2m3]
    have : ((8 : Int) : Rat) = 8 := rfl
    have : ((12 : Int) : Rat) = 12 := rfl
    grind
  rw [e] at h
  exact h
theorem dmy_le {y : Rat} {b : Int} (h1 : -8 ≤ b) (h2 : b ≤ 8) : dmy y ≤ A (y - (b : Rat) * p2 (-3)) := by
  have h := (fold_le (fun b : Nat => A (y - ((b : Rat) - 8) / 8)) (List.range 17) 100).2 (b + 8).toNat (List.mem_range.2 (by omega))
  have e : (((b + 8).toNat : Nat) : Rat) - 8 = (b : Rat) := by
    rw [← Rat.intCast_natCast, show (((b + 8).toNat : Nat) : Int) = b + 8 by omega, Rat.intCast_add]
    have : ((8 : Int) : Rat) = 8 := rfl
    grind
  have e2 : ((((b + 8).toNat : Nat) : Rat) - 8) / 8 = (b : Rat) * p2 (-3) := by rw [e, p2m3]; grind
  rw [e2] at h
  exact h
/-- A product of the first lower bounds. -/
def prd (d : Nat → Rat) : Nat → Rat | 0 => 1 | j + 1 => d j * prd d j
theorem prd_lb {X : Nat → Int × Int} {z : Q2} {d : Nat → Rat} {n : Nat} (h : ∀ j, j < n → Lb (gq X z j) (d j)) : Lb (pv X n z) (prd d n) := by
  induction n with
  | zero => exact (show Lb one2 1 from ⟨by decide, by decide +kernel⟩)
  | succ n ih => exact (h n (by omega)).mul (ih (fun j hj => h j (by omega)))
section
variable {ls : List C2} {X : Nat → Int × Int}
theorem DX.lbx (h : DX ls X) {j : Nat} (hj : j < ls.length) {z : Q2} (h0 : 0 ≤ dmn z.re j) : Lb (gq X z j) (dmn z.re j) := by
  obtain ⟨a, b⟩ := h.x j hj
  exact Lb.of_re h0 (dmn_le a b)
theorem DX.lby (h : DX ls X) {j : Nat} (hj : j < ls.length) {z : Q2} (h0 : 0 ≤ dmy z.im) : Lb (gq X z j) (dmy z.im) := by
  obtain ⟨a, b⟩ := h.y j hj
  exact Lb.of_im h0 (dmy_le a b)
/-- Away from the roots' interval. -/
theorem DX.lbf (h : DX ls X) {j : Nat} (hj : j < ls.length) {z : Q2} {r : Rat} (h0 : 0 ≤ r) (hr : z.re + r ≤ (j : Rat) - 3 / 2 ∨ (j : Rat) - 1 + r ≤ z.re) : Lb (gq X z j) r := by
  obtain ⟨a, b⟩ := h.x j hj
  refine Lb.of_re h0 ?_
  have e : (gq X z j).re = z.re - ((X j).1 : Rat) * p2 (-3) := rfl
  have a1 : ((8 * (j : Int) - 12 : Int) : Rat) ≤ ((X j).1 : Rat) := Rat.intCast_le_intCast.2 a
  have b1 : ((X j).1 : Rat) ≤ ((8 * (j : Int) - 8 : Int) : Rat) := Rat.intCast_le_intCast.2 b
  rw [Rat.intCast_sub, Rat.intCast_mul, Rat.intCast_natCast] at a1 b1
  have c8 : ((8 : Int) : Rat) = 8 := rfl
  have c12 : ((12 : Int) : Rat) = 12 := rfl
  rw [c8, c12] at a1
  rw [c8] at b1
  rw [e, p2m3]
  have := le_A (z.re - ((X j).1 : Rat) * (1 / 8))
  rcases hr with hr | hr
  · grind
  · grind
/-- What the exact value's size is at least, and the float error near the roots. -/
def lowB (n : Nat) : Rat := if n = 4 then 3 / 1000 else 24 / 10000
def errB (n : Nat) : Rat := if n = 4 then 66 / 100000 else 1 / 10000
theorem low_tab : ∀ n, n < 5 → TabL n (17 / 4) ∧ TabL n (33 / 2) ∧ ud * pB n (17 / 4) n ≤ errB n ∧ ud * pB n (33 / 2) n ≤ 6 / 100 ∧ mB n (33 / 2) n ≤ p2 18 ∧ 1 / 512 + errB n ≤ lowB n := by unfold TabL; decide +kernel
/-- On a vertical edge. -/
theorem DX.edge_x (h : DX ls X) (h4 : ls.length ≤ 4) {z : Q2} (hp : ∀ j, j < 4 → 0 ≤ dmn z.re j) (hd : lowB ls.length ≤ prd (dmn z.re) ls.length) : lowB ls.length ≤ N (pv X ls.length z) :=
  Rat.le_trans hd (prd_lb (fun j hj => h.lbx hj (hp j (by omega)))).N
/-- On a horizontal edge. -/
theorem DX.edge_y (h : DX ls X) (h1 : 1 ≤ ls.length) (h4 : ls.length ≤ 4) {z : Q2} (hp : 5 / 128 ≤ dmy z.im) : lowB ls.length ≤ N (pv X ls.length z) := by
  have fin : ∀ d : Nat → Rat, (∀ j, j < ls.length → Lb (gq X z j) (d j)) → lowB ls.length ≤ prd d ls.length → lowB ls.length ≤ N (pv X ls.length z) := fun d hd hl => Rat.le_trans hl (prd_lb hd).N
  have y0 : ∀ j, j < ls.length → Lb (gq X z j) (5 / 128) := fun j hj => (h.lby hj (Rat.le_trans (by decide +kernel) hp)).mono (by decide +kernel) hp
  have far : ∀ (j : Nat) (r : Rat), j < ls.length → 0 ≤ r → (z.re + r ≤ (j : Rat) - 3 / 2 ∨ (j : Rat) - 1 + r ≤ z.re) → Lb (gq X z j) r := fun j r hj h0 hr => h.lbf hj h0 hr
  have c0 : ((0 : Nat) : Rat) = 0 := rfl
  have c1 : ((1 : Nat) : Rat) = 1 := rfl
  have c2 : ((2 : Nat) : Rat) = 2 := rfl
  have c3 : ((3 : Nat) : Rat) = 3 := rfl
  have tab : ∀ n, n < 5 → 1 ≤ n → lowB n ≤ prd (fun j => match j with | 0 => 5 / 128 | 1 => 1 / 4 | 2 => 5 / 4 | _ => 9 / 4) n ∧ lowB n ≤ prd (fun j => match j with | 0 => 1 / 4 | 1 => 5 / 128 | 2 => 1 / 4 | _ => 5 / 4) n ∧
      lowB n ≤ prd (fun j => match j with | 0 => 5 / 4 | 1 => 1 / 4 | 2 => 5 / 128 | _ => 1 / 4) n ∧ lowB n ≤ prd (fun j => match j with | 0 => 9 / 4 | 1 => 5 / 4 | 2 => 1 / 4 | _ => 5 / 128) n := by decide +kernel
  obtain ⟨t1, t2, t3, t4⟩ := tab ls.length (by omega) h1
  by_cases q1 : z.re ≤ -(3 / 4)
  · refine fin _ (fun j hj => ?_) t1
    rcases (by omega : j = 0 ∨ j = 1 ∨ j = 2 ∨ j = 3) with rfl | rfl | rfl | rfl
    · exact y0 0 hj
    · exact far 1 _ hj (by decide +kernel) (.inl (by rw [c1]; grind))
    · exact far 2 _ hj (by decide +kernel) (.inl (by rw [c2]; grind))
    · exact far 3 _ hj (by decide +kernel) (.inl (by rw [c3]; grind))
  · by_cases q2 : z.re ≤ 1 / 4
    · refine fin _ (fun j hj => ?_) t2
      rcases (by omega : j = 0 ∨ j = 1 ∨ j = 2 ∨ j = 3) with rfl | rfl | rfl | rfl
      · exact far 0 _ hj (by decide +kernel) (.inr (by rw [c0]; grind))
      · exact y0 1 hj
      · exact far 2 _ hj (by decide +kernel) (.inl (by rw [c2]; grind))
      · exact far 3 _ hj (by decide +kernel) (.inl (by rw [c3]; grind))
    · by_cases q3 : z.re ≤ 5 / 4
      · refine fin _ (fun j hj => ?_) t3
        rcases (by omega : j = 0 ∨ j = 1 ∨ j = 2 ∨ j = 3) with rfl | rfl | rfl | rfl
        · exact far 0 _ hj (by decide +kernel) (.inr (by rw [c0]; grind))
        · exact far 1 _ hj (by decide +kernel) (.inr (by rw [c1]; grind))
        · exact y0 2 hj
        · exact far 3 _ hj (by decide +kernel) (.inl (by rw [c3]; grind))
      · refine fin _ (fun j hj => ?_) t4
        rcases (by omega : j = 0 ∨ j = 1 ∨ j = 2 ∨ j = 3) with rfl | rfl | rfl | rfl
        · exact far 0 _ hj (by decide +kernel) (.inr (by rw [c0]; grind))
        · exact far 1 _ hj (by decide +kernel) (.inr (by rw [c1]; grind))
        · exact far 2 _ hj (by decide +kernel) (.inr (by rw [c2]; grind))
        · exact y0 3 hj
/-- Far from all places of roots. -/
theorem DX.far (h : DX ls X) (h4 : ls.length ≤ 4) {z : Q2} (hz : 17 / 4 ≤ N z) : 3 / 10 ≤ N (pv X ls.length z) := by
  have hlb : ∀ j, j < ls.length → Lb (gq X z j) (3 / 4) := by
    intro j hj
    obtain ⟨a, b⟩ := h.x j hj
    obtain ⟨c, d⟩ := h.y j hj
    have a1 : ((8 * (j : Int) - 12 : Int) : Rat) ≤ ((X j).1 : Rat) := Rat.intCast_le_intCast.2 a
    have b1 : ((X j).1 : Rat) ≤ ((8 * (j : Int) - 8 : Int) : Rat) := Rat.intCast_le_intCast.2 b
    have c1 : (((-8 : Int)) : Rat) ≤ ((X j).2 : Rat) := Rat.intCast_le_intCast.2 c
    have d1 : ((X j).2 : Rat) ≤ (((8 : Int)) : Rat) := Rat.intCast_le_intCast.2 d
    have c8 : ((8 : Int) : Rat) = 8 := rfl
    have c8' : ((-8 : Int) : Rat) = -8 := rfl
    rw [c8'] at c1
    rw [c8] at d1
    have x1 : (-12 : Rat) ≤ ((X j).1 : Rat) := by
      have : ((-12 : Int) : Rat) ≤ ((X j).1 : Rat) := Rat.intCast_le_intCast.2 (by omega)
      exact this
    have x2 : ((X j).1 : Rat) ≤ 16 := by
      have : ((X j).1 : Rat) ≤ ((16 : Int) : Rat) := Rat.intCast_le_intCast.2 (by omega)
      exact this
    have ab : Ab (rq X j) (9 / 4) := by
      refine ⟨by decide +kernel, ?_⟩
      show ((X j).1 : Rat) * p2 (-3) * (((X j).1 : Rat) * p2 (-3)) + ((X j).2 : Rat) * p2 (-3) * (((X j).2 : Rat) * p2 (-3)) ≤ _
      rw [p2m3]
      have m1 : A ((X j).1 : Rat) ≤ 16 := A_le.2 ⟨x2, by grind⟩
      have m2 : A ((X j).2 : Rat) ≤ 8 := A_le.2 ⟨d1, by grind⟩
      have n1 := abs_m m1 m1
      have n2 := abs_m m2 m2
      have o1 := le_A (((X j).1 : Rat) * ((X j).1 : Rat))
      have o2 := le_A (((X j).2 : Rat) * ((X j).2 : Rat))
      grind
    have sz := sqN_ge z
    have nz := mul_le hz hz (by decide +kernel) (N_nonneg z)
    refine ⟨by decide +kernel, ?_⟩
    refine Rat.not_lt.1 (fun hlt => ?_)
    have ab2 : Ab (gq X z j) (3 / 4) := ⟨by decide +kernel, Rat.le_of_lt hlt⟩
    have ab3 := ab2.add ab
    have e : gq X z j + rq X j = z := by unfold gq; exact q2e (by simp; grind) (by simp; grind)
    rw [e] at ab3
    have := ab3.2
    grind
  have := (prd_lb (n := ls.length) (d := fun _ => 3 / 4) hlb).N
  have tab : ∀ n, n < 5 → 3 / 10 ≤ prd (fun _ => 3 / 4) n := by decide +kernel
  exact Rat.le_trans (tab _ (by omega)) this
/-- A value on an edge: safe, not too small, not too great. -/
structure ValOk (F : List C2) (z : C2) : Prop where
  f : fC z
  s : safeN F z
  fv : fC (nestedF F z)
  lo : 1 / 512 ≤ N (cv (nestedF F z))
  hi : N (cv (nestedF F z)) ≤ p2 40
theorem DX.edge (h : DX ls X) (h1 : 1 ≤ ls.length) (h4 : ls.length ≤ 4) {z : C2} (hz : fC z) (hn : N (cv z) ≤ 33 / 2) (hl : lowB ls.length ≤ N (pv X ls.length (cv z))) : ValOk (rootsL (ls.map nc) ls.length) z := by
  obtain ⟨t1, t2, t3, t4, t5, t6⟩ := low_tab ls.length (by omega)
  obtain ⟨v1, v2, v3, v4⟩ := h.value h1 h4 t2 hz hn
  have nt := N_tri (cv (nestedF (rootsL (ls.map nc) ls.length) z)) (pv X ls.length (cv z))
  have nt2 := N_tri (pv X ls.length (cv z)) (cv (nestedF (rootsL (ls.map nc) ls.length) z))
  rw [N_comm] at nt2
  refine ⟨hz, v1, v2, ?_, ?_⟩
  · by_cases hs : N (cv z) ≤ 17 / 4
    · obtain ⟨w1, w2, w3, w4⟩ := h.value h1 h4 t1 hz hs
      grind
    · have := h.far h4 (z := cv z) (by grind)
      grind
  · have e18 : p2 18 + 6 / 100 ≤ p2 40 := by decide +kernel
    grind
end
end Go.Proofs.Ytklonahkacikbaa
