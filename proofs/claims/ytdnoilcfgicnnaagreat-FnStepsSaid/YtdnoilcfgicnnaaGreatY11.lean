/- Complex numbers of rational parts, their 1-norm, and the complex operations of float32 on values: each gives the exact value but for a small relative error. Conditions: nothing is too great. -/
import Derived.Test.YtdnoilcfgicnnaaGreatY10
import Derived.Test.YtdnoilcfgicnnaaGreatY5
import Derived.Test.YtdnoilcfgicnnaaGreatY7
namespace Go.Proofs.YtdnoilcfgicnnaaGreat
set_option linter.unusedSimpArgs false
set_option linter.unusedVariables false
open Go

structure Q2 where
  re : Rat
  im : Rat
theorem q2e {a b : Q2} (h1 : a.re = b.re) (h2 : a.im = b.im) : a = b := by cases a; cases b; simp_all
instance : Add Q2 := ⟨fun a b => ⟨a.re + b.re, a.im + b.im⟩⟩
instance : Sub Q2 := ⟨fun a b => ⟨a.re - b.re, a.im - b.im⟩⟩
instance : Neg Q2 := ⟨fun a => ⟨-a.re, -a.im⟩⟩
instance : Mul Q2 := ⟨fun a b => ⟨a.re * b.re - a.im * b.im, a.re * b.im + a.im * b.re⟩⟩
@[simp] theorem re_add (a b : Q2) : (a + b).re = a.re + b.re := rfl
@[simp] theorem im_add (a b : Q2) : (a + b).im = a.im + b.im := rfl
@[simp] theorem re_sub (a b : Q2) : (a - b).re = a.re - b.re := rfl
@[simp] theorem im_sub (a b : Q2) : (a - b).im = a.im - b.im := rfl
@[simp] theorem re_neg (a : Q2) : (-a).re = -a.re := rfl
@[simp] theorem im_neg (a : Q2) : (-a).im = -a.im := rfl
@[simp] theorem re_mul (a b : Q2) : (a * b).re = a.re * b.re - a.im * b.im := rfl
@[simp] theorem im_mul (a b : Q2) : (a * b).im = a.re * b.im + a.im * b.re := rfl

/-- The 1-norm. -/
def N (z : Q2) : Rat := A z.re + A z.im
theorem N_nonneg (z : Q2) : 0 ≤ N z := by have := A_nonneg z.re; have := A_nonneg z.im; unfold N; grind
theorem N_add (x y : Q2) : N (x + y) ≤ N x + N y := by
  have h1 := A_add x.re y.re; have h2 := A_add x.im y.im
  simp only [N, re_add, im_add]; grind
theorem N_sub (x y : Q2) : N (x - y) ≤ N x + N y := by
  have h1 := A_sub x.re y.re; have h2 := A_sub x.im y.im
  simp only [N, re_sub, im_sub]; grind
theorem N_neg (x : Q2) : N (-x) = N x := by simp only [N, re_neg, im_neg, A_neg]
theorem N_comm (x y : Q2) : N (x - y) = N (y - x) := by simp only [N, re_sub, im_sub, A_comm x.re, A_comm x.im]
theorem N_mul (x y : Q2) : N (x * y) ≤ N x * N y := by
  have h1 := A_sub (x.re * y.re) (x.im * y.im)
  have h2 := A_add (x.re * y.im) (x.im * y.re)
  simp only [A_mul] at h1 h2
  simp only [N, re_mul, im_mul]
  grind
theorem re_le_N (z : Q2) : A z.re ≤ N z := by have := A_nonneg z.im; unfold N; grind
theorem im_le_N (z : Q2) : A z.im ≤ N z := by have := A_nonneg z.re; unfold N; grind
theorem N_tri (x y : Q2) : N x ≤ N y + N (x - y) := by
  have := N_add y (x - y)
  rw [show y + (x - y) = x from q2e (by simp; grind) (by simp; grind)] at this
  exact this

/-- The value of a complex number's words; its parts are numbers. -/
def cv (z : C2) : Q2 := ⟨vN .f32 z.1, vN .f32 z.2⟩
def fC (z : C2) : Prop := fN .f32 z.1 = true ∧ fN .f32 z.2 = true
theorem fC_iff (z : C2) : fC z ↔ finC z = true := by unfold fC; rw [finC_iff, Bool.and_eq_true]
def u1 : Rat := p2 (-24) + p2 (-48)
def e1 : Rat := p2 (-148)
theorem u1_pos : 0 < u1 := by have := p2_pos (-24); have := p2_pos (-48); unfold u1; grind
theorem e1_pos : 0 < e1 := p2_pos _
/-- A result: its parts are numbers, near the exact value. -/
def Near (r : C2) (q : Q2) : Prop := fC r ∧ N (cv r - q) ≤ u1 * N q + e1

theorem p2_dbl {a b : Int} (h : b = a + 1) : p2 b = p2 a + p2 a := by rw [h, p2_add, show p2 1 = 2 from rfl]; grind
/-- One part of a result: near by 'u1' and half of 'e1'. -/
def Near1 (r : Nat) (q : Rat) : Prop := fN .f32 r = true ∧ A (vN .f32 r - q) ≤ u1 * A q + p2 (-149)
theorem near_mk {r : C2} {q : Q2} (h1 : Near1 r.1 q.re) (h2 : Near1 r.2 q.im) : Near r q := by
  refine ⟨⟨h1.1, h2.1⟩, ?_⟩
  have a1 := h1.2; have a2 := h2.2
  have e : e1 = p2 (-149) + p2 (-149) := p2_dbl (by omega)
  simp only [N, re_sub, im_sub, cv]
  rw [e]
  clear e
  generalize p2 (-149) = t at *
  generalize u1 = u at *
  grind
theorem near1_res {r : Nat} {q : Rat} (h : Res .f32 r q) : Near1 r q := by
  refine ⟨h.1, ?_⟩
  have h1 : A (vN .f32 r - q) ≤ p2 (-24) * A q + p2 (-150) := h.2.1
  have h2 := p2_mono (show (-150 : Int) ≤ -149 by decide)
  have h3 := Rat.mul_nonneg (Rat.le_of_lt (p2_pos (-48))) (A_nonneg q)
  unfold u1; grind

theorem p2_two (a : Int) : p2 a + p2 a = p2 (a + 1) := (p2_dbl rfl).symm

theorem addC_near {x y : C2} (hx : fC x) (hy : fC y) (ht : N (cv x + cv y) < p2 127) : Near (addC x y) (cv x + cv y) := by
  have h1 : A (vN .f32 x.1 + vN .f32 y.1) ≤ N (cv x + cv y) := re_le_N (cv x + cv y)
  have h2 : A (vN .f32 x.2 + vN .f32 y.2) ≤ N (cv x + cv y) := im_le_N (cv x + cv y)
  exact near_mk (near1_res (fop_add_res hx.1 hy.1 (show A (vN .f32 x.1 + vN .f32 y.1) < p2 127 by grind)))
    (near1_res (fop_add_res hx.2 hy.2 (show A (vN .f32 x.2 + vN .f32 y.2) < p2 127 by grind)))
theorem subC_near {x y : C2} (hx : fC x) (hy : fC y) (ht : N (cv x - cv y) < p2 127) : Near (subC x y) (cv x - cv y) := by
  have h1 : A (vN .f32 x.1 - vN .f32 y.1) ≤ N (cv x - cv y) := re_le_N (cv x - cv y)
  have h2 : A (vN .f32 x.2 - vN .f32 y.2) ≤ N (cv x - cv y) := im_le_N (cv x - cv y)
  exact near_mk (near1_res (fop_sub_res hx.1 hy.1 (show A (vN .f32 x.1 - vN .f32 y.1) < p2 127 by grind)))
    (near1_res (fop_sub_res hx.2 hy.2 (show A (vN .f32 x.2 - vN .f32 y.2) < p2 127 by grind)))

/-- The product of two float32, as float64: exact. -/
theorem prod_exact {x y : Nat} (hx : fN .f32 x = true) (hy : fN .f32 y = true) (h1 : A (vN .f32 x) < p2 200) (h2 : A (vN .f32 y) < p2 200) :
    fN .f64 (fop .mul .f64 (wd x) (wd y)) = true ∧ vN .f64 (fop .mul .f64 (wd x) (wd y)) = vN .f32 x * vN .f32 y := by
  have m1 := p2_mono (show (200 : Int) ≤ 1023 by decide)
  obtain ⟨w1, w2⟩ := wd_ok hx (by grind)
  obtain ⟨w3, w4⟩ := wd_ok hy (by grind)
  have ht : A (vN .f32 x * vN .f32 y) < p2 1023 := by
    rw [A_mul]
    have a1 := mul_le (Rat.le_of_lt h1) (Rat.le_of_lt h2) (A_nonneg _) (Rat.le_of_lt (p2_pos 200))
    rw [← p2_add] at a1
    have a2 : p2 (200 + 200) + p2 (200 + 200) = p2 401 := p2_two 400
    have a3 := p2_mono (show (401 : Int) ≤ 1023 by decide)
    have a4 := p2_pos (200 + 200)
    grind
  have hR := fop_mul_res (k := .f64) w1 w3 (by rw [w2, w4]; exact ht)
  rw [w2, w4] at hR
  refine ⟨hR.1, ?_⟩
  obtain ⟨m, e, a1, a2, a3⟩ := vN_lt .f32 hx
  obtain ⟨n, j, b1, b2, b3⟩ := vN_lt .f32 hy
  have a2' : m < 2 ^ 24 := a2
  have b2' : n < 2 ^ 24 := b2
  have a3' : (-149 : Int) ≤ e := a3
  have b3' : (-149 : Int) ≤ j := b3
  refine hR.2.2 (m * n) (e + j) ?_ ?_ ?_
  · rw [A_mul, a1, b1, p2_add, Rat.natCast_mul]; grind
  · have : m * n ≤ 2 ^ 24 * 2 ^ 24 := Nat.mul_le_mul (Nat.le_of_lt a2') (Nat.le_of_lt b2')
    have h3 : (2 : Nat) ^ 24 * 2 ^ 24 < 2 ^ bK .f64 := by decide
    omega
  · have : lK .f64 = -1074 := rfl
    omega

theorem small_tail {a b q : Rat} {i : Int} (h1 : A (a - b) ≤ p2 (-24) * A b + p2 (-150)) (h2 : A (b - q) ≤ p2 (-49) * A q + p2 i) (hi : i ≤ -152) : A (a - q) ≤ u1 * A q + p2 (-149) := by
  have t1 := A_add (a - b) (b - q)
  rw [show a - b + (b - q) = a - q by grind] at t1
  have t2 := A_add (b - q) q
  rw [show b - q + q = b by grind] at t2
  have n1 := A_nonneg q
  have m1 := p2_mono hi
  have f1 : p2 (-24) * A b ≤ p2 (-24) * (A q + p2 (-49) * A q + p2 i) := Rat.mul_le_mul_of_nonneg_left (by grind) (Rat.le_of_lt (p2_pos _))
  have f2 : p2 (-24) ≤ 1 := by have := p2_mono (show (-24 : Int) ≤ 0 by decide); rw [p2_zero] at this; exact this
  have f3 : p2 (-24) * (p2 (-49) * A q) ≤ p2 (-49) * A q := by
    have := Rat.mul_le_mul_of_nonneg_right f2 (Rat.mul_nonneg (Rat.le_of_lt (p2_pos (-49))) n1); grind
  have f4 : p2 (-24) * p2 i ≤ p2 i := by have := Rat.mul_le_mul_of_nonneg_right f2 (Rat.le_of_lt (p2_pos i)); grind
  have g1 : p2 (-48) = p2 (-49) + p2 (-49) := p2_dbl (by omega)
  have g2 : p2 (-149) = p2 (-150) + p2 (-150) := p2_dbl (by omega)
  have g3 : p2 (-150) = p2 (-151) + p2 (-151) := p2_dbl (by omega)
  have g4 : p2 (-151) = p2 (-152) + p2 (-152) := p2_dbl (by omega)
  have g5 := p2_pos (-152)
  unfold u1
  rw [g2, g1]
  rw [g3, g4] at h1 ⊢
  grind -mbtc
/-- A float64 near a value, narrowed. -/
theorem near1_nw {x : Nat} {q : Rat} {i : Int} (h : fN .f64 x = true) (h2 : A (vN .f64 x - q) ≤ p2 (-49) * A q + p2 i) (hi : i ≤ -152) (ht : A q < p2 126) : fit1 x ∧ Near1 (nw x) q := by
  have t2 := A_add (vN .f64 x - q) q
  rw [show vN .f64 x - q + q = vN .f64 x by grind] at t2
  have f2 : p2 (-49) * A q ≤ p2 (-49) * p2 126 := Rat.mul_le_mul_of_nonneg_left (Rat.le_of_lt ht) (Rat.le_of_lt (p2_pos _))
  rw [← p2_add] at f2
  have m1 := p2_mono hi
  have m2 := p2_mono (show (-152 : Int) ≤ -49 + 126 by decide)
  have m3 : p2 (-49 + 126) + p2 (-49 + 126) = p2 78 := p2_two _
  have m4 := p2_mono (show (78 : Int) ≤ 126 by decide)
  have m5 : p2 126 + p2 126 = p2 127 := p2_two _
  obtain ⟨a1, a2⟩ := nw_ok h (by grind)
  exact ⟨a1, a2.1, small_tail a2.2.1 h2 hi⟩

/-- Sums of two products of float32, in float64, narrowed. -/
theorem sum_near {P Q : Nat} {p q : Rat} (hP : fN .f64 P = true) (hp : vN .f64 P = p) (hQ : fN .f64 Q = true) (hq : vN .f64 Q = q) (ht : A (p + q) < p2 500) :
    fN .f64 (fop .add .f64 P Q) = true ∧ A (vN .f64 (fop .add .f64 P Q) - (p + q)) ≤ p2 (-53) * A (p + q) + p2 (-1075) := by
  have m1 := p2_mono (show (500 : Int) ≤ 1023 by decide)
  have := fop_add_res (k := .f64) hP hQ (by rw [hp, hq]; show _ < p2 1023; grind)
  rw [hp, hq] at this
  exact ⟨this.1, this.2.1⟩
theorem dif_near {P Q : Nat} {p q : Rat} (hP : fN .f64 P = true) (hp : vN .f64 P = p) (hQ : fN .f64 Q = true) (hq : vN .f64 Q = q) (ht : A (p - q) < p2 500) :
    fN .f64 (fop .sub .f64 P Q) = true ∧ A (vN .f64 (fop .sub .f64 P Q) - (p - q)) ≤ p2 (-53) * A (p - q) + p2 (-1075) := by
  have m1 := p2_mono (show (500 : Int) ≤ 1023 by decide)
  have := fop_sub_res (k := .f64) hP hQ (by rw [hp, hq]; show _ < p2 1023; grind)
  rw [hp, hq] at this
  exact ⟨this.1, this.2.1⟩
theorem weaken {a q : Rat} (h : A (a - q) ≤ p2 (-53) * A q + p2 (-1075)) : A (a - q) ≤ p2 (-49) * A q + p2 (-1075) := by
  have m1 := p2_mono (show (-53 : Int) ≤ -49 by decide)
  have := Rat.mul_le_mul_of_nonneg_right m1 (A_nonneg q)
  grind

/-- The two sums of a complex product, in float64. -/
theorem times_ok {x y : C2} (hx : fC x) (hy : fC y) (h1 : N (cv x) < p2 200) (h2 : N (cv y) < p2 200) (ht : N (cv x * cv y) < p2 500) :
    (fN .f64 (timesF x y).1 = true ∧ A (vN .f64 (timesF x y).1 - (cv x * cv y).re) ≤ p2 (-53) * A (cv x * cv y).re + p2 (-1075)) ∧
    (fN .f64 (timesF x y).2 = true ∧ A (vN .f64 (timesF x y).2 - (cv x * cv y).im) ≤ p2 (-53) * A (cv x * cv y).im + p2 (-1075)) := by
  have a1 := re_le_N (cv x); have a2 := im_le_N (cv x); have b1 := re_le_N (cv y); have b2 := im_le_N (cv y)
  have c1 := re_le_N (cv x * cv y); have c2 := im_le_N (cv x * cv y)
  simp only [cv] at a1 a2 b1 b2
  obtain ⟨p1, p2'⟩ := prod_exact hx.1 hy.1 (by unfold cv at *; grind) (by unfold cv at *; grind)
  obtain ⟨q1, q2⟩ := prod_exact hx.2 hy.2 (by unfold cv at *; grind) (by unfold cv at *; grind)
  obtain ⟨r1, r2⟩ := prod_exact hx.1 hy.2 (by unfold cv at *; grind) (by unfold cv at *; grind)
  obtain ⟨s1, s2⟩ := prod_exact hx.2 hy.1 (by unfold cv at *; grind) (by unfold cv at *; grind)
  exact ⟨dif_near p1 p2' q1 q2 (by simp only [re_mul, cv] at c1 ht ⊢; grind), sum_near r1 r2 s1 s2 (by simp only [im_mul, cv] at c2 ht ⊢; grind)⟩
theorem mulC_near {x y : C2} (hx : fC x) (hy : fC y) (h1 : N (cv x) < p2 200) (h2 : N (cv y) < p2 200) (ht : N (cv x * cv y) < p2 126) : fit2 (timesF x y) ∧ Near (mulC x y) (cv x * cv y) := by
  have m5 := p2_mono (show (126 : Int) ≤ 500 by decide)
  obtain ⟨⟨a1, a2⟩, b1, b2⟩ := times_ok hx hy h1 h2 (by grind)
  have c1 := re_le_N (cv x * cv y); have c2 := im_le_N (cv x * cv y)
  obtain ⟨f1, g1⟩ := near1_nw a1 (weaken a2) (by decide) (by grind)
  obtain ⟨f2, g2⟩ := near1_nw b1 (weaken b2) (by decide) (by grind)
  exact ⟨⟨f1, f2⟩, near_mk g1 g2⟩
end Go.Proofs.YtdnoilcfgicnnaaGreat

/- Quotients of complex numbers of float32 on values: near the exact quotient. Conditions: the divisor is not too small, nothing is too great. -/
namespace Go.Proofs.YtdnoilcfgicnnaaGreat
set_option linter.unusedSimpArgs false
set_option linter.unusedVariables false
open Go

theorem negF_ok {x : Nat} (h : fN .f32 x = true) : fN .f32 (negF x) = true ∧ vN .f32 (negF x) = -vN .f32 x := by
  have h2 : Op.negFloat .f32 x = x ^^^ 2 ^ 31 := rfl
  have e1 : Ieee.single.signWeight = 2 ^ 31 := by rw [single_facts.1]
  have hm : (x ^^^ 2 ^ 31) % 2 ^ 31 = x % 2 ^ 31 := by rw [Nat.xor_mod_two_pow, Nat.mod_self, Nat.xor_zero]
  have hs : ((x ^^^ 2 ^ 31) / 2 ^ 31 % 2 == 1) = !(x / 2 ^ 31 % 2 == 1) := by
    have t1 : ∀ y : Nat, (y / 2 ^ 31 % 2 == 1) = y.testBit 31 := fun y => by
      rw [Nat.testBit_eq_decide_div_mod_eq]
      by_cases hy : y / 2 ^ 31 % 2 = 1 <;> simp [hy]
    rw [t1, t1, Nat.testBit_xor, Nat.testBit_two_pow_self]
    cases x.testBit 31 <;> rfl
  have key : Ieee.single.read (x ^^^ 2 ^ 31) = (Ieee.single.read x).opposite := by
    unfold Ieee.Format.read
    simp only [e1, hm, hs]
    split
    · rfl
    · split
      · rfl
      · split <;> rfl
  have hx : isNum (Ieee.single.read x) = true := h
  obtain ⟨a1, a2⟩ := opposite_val hx
  have f1 : fN .f32 (Op.negFloat .f32 x) = true := by
    unfold fN; show isNum (Ieee.single.read _) = true; rw [h2, key]; exact a1
  unfold negF
  rw [fN_nrm f1]
  refine ⟨f1, ?_⟩
  unfold vN
  show valD (Ieee.single.read _) = -valD (Ieee.single.read x)
  rw [h2, key]; exact a2
theorem conjC_ok {s : C2} (h : fC s) : fC (conjC s) ∧ cv (conjC s) = ⟨(cv s).re, -(cv s).im⟩ := by
  obtain ⟨a, b⟩ := negF_ok h.2
  exact ⟨⟨h.1, a⟩, q2e rfl b⟩

theorem p2_small {a : Int} (h : a ≤ 0) : p2 a ≤ 1 := by have := p2_mono h; rw [p2_zero] at this; exact this
theorem quo_part {x y : Nat} {a p q : Rat} (fa : fN .f64 x = true) (ha : A (vN .f64 x - a) ≤ p2 (-53) * A a + p2 (-1075)) (fp : fN .f64 y = true) (hp : A (vN .f64 y - p) ≤ p2 (-53) * A p + p2 (-1075))
    (hpl : p2 (-100) ≤ p) (hq : q * p = a) (hqt : A q < p2 126) : fit1 (fop .quo .f64 x y) ∧ Near1 (nw (fop .quo .f64 x y)) q := by
  have p0 : 0 < p := by have := p2_pos (-100); grind
  rw [A_of_nonneg (Rat.le_of_lt p0)] at hp
  have hAa : A a = A q * p := by rw [← hq, A_mul, A_of_nonneg (Rat.le_of_lt p0)]
  rw [hAa] at ha
  generalize hX : vN .f64 x = X at *
  generalize hP : vN .f64 y = P at *
  have hq0 := A_nonneg q
  -- the divisor
  have d1 : p2 (-1075) ≤ p2 (-53) * p := by
    have h1 := Rat.mul_le_mul_of_nonneg_left hpl (Rat.le_of_lt (p2_pos (-53)))
    rw [← p2_add] at h1
    have := p2_mono (show (-1075 : Int) ≤ -53 + -100 by decide)
    grind
  have d2 : p2 (-53) * p ≤ p * (1 / 4) := by
    have h1 := p2_mono (show (-53 : Int) ≤ -2 by decide)
    rw [show p2 (-2) = 1 / 4 by decide +kernel] at h1
    have := Rat.mul_le_mul_of_nonneg_right h1 (Rat.le_of_lt p0)
    grind
  have d3 := le_A (P - p)
  have d4 : p ≤ 2 * P := by grind
  have P0 : 0 < P := by grind
  have P1 : P ≠ 0 := by intro h; rw [h] at P0; exact absurd P0 (by decide)
  -- the exact quotient of the two
  have hqd : X * P⁻¹ * P = X := by rw [Rat.mul_assoc, Rat.mul_comm P⁻¹ P, Rat.mul_inv_cancel P P1]; grind
  generalize X * P⁻¹ = qd at hqd
  have k1 : A (qd - q) * P ≤ (4 * (p2 (-53) * A q) + p2 (-974) + p2 (-974) * A q) * P := by
    have m1 : A (qd - q) * P = A (X - a - q * (P - p)) := by
      conv => lhs; rw [← A_of_nonneg (Rat.le_of_lt P0)]
      rw [← A_mul]; congr 1; rw [← hqd, ← hq]; grind
    have m2 := A_sub (X - a) (q * (P - p))
    rw [A_mul] at m2
    have m3 := Rat.mul_le_mul_of_nonneg_left hp hq0
    have m4 : p2 (-1075) ≤ p2 (-974) * P := by
      have h1 : p2 (-101) ≤ P := by
        have : p2 (-100) = p2 (-101) + p2 (-101) := p2_dbl (by omega)
        grind
      have h2 := Rat.mul_le_mul_of_nonneg_left h1 (Rat.le_of_lt (p2_pos (-974)))
      rw [← p2_add] at h2
      exact h2
    have m5 := Rat.mul_le_mul_of_nonneg_left m4 hq0
    have m6 := Rat.mul_le_mul_of_nonneg_left d4 (Rat.mul_nonneg (Rat.le_of_lt (p2_pos (-53))) hq0)
    rw [m1]
    clear d1 d2 d3 hqt hqd m1 hX hP
    generalize p2 (-53) = c at *
    generalize p2 (-974) = d at *
    generalize p2 (-1075) = e at *
    generalize A (X - a - q * (P - p)) = B1 at *
    generalize A (X - a) = B2 at *
    generalize A (P - p) = B3 at *
    generalize A q = B4 at *
    clear hAa
    grind
  have k2 := lcancel_le P0 k1
  have k3 : p2 (-974) * A q ≤ p2 (-53) * A q := Rat.mul_le_mul_of_nonneg_right (p2_mono (by decide)) hq0
  have k4 : A (qd - q) ≤ p2 (-50) * A q + p2 (-974) := by
    have g1 : p2 (-50) = p2 (-51) + p2 (-51) := p2_dbl (by omega)
    have g2 : p2 (-51) = p2 (-52) + p2 (-52) := p2_dbl (by omega)
    have g3 : p2 (-52) = p2 (-53) + p2 (-53) := p2_dbl (by omega)
    have g4 := Rat.mul_nonneg (Rat.le_of_lt (p2_pos (-53))) hq0
    rw [g1, g2, g3]
    clear k1 d1 d2 d3 hqt hX hP ha hp hpl g1 g2 g3
    generalize p2 (-53) = c at *
    generalize p2 (-974) = d at *
    generalize A (qd - q) = B1 at *
    generalize A q = B4 at *
    grind
  have k5 := A_add (qd - q) q
  rw [show qd - q + q = qd by grind] at k5
  have k6 : A qd ≤ 2 * A q + 1 := by
    have h1 := Rat.mul_le_mul_of_nonneg_right (p2_small (show (-50 : Int) ≤ 0 by decide)) hq0
    have h2 := p2_small (show (-974 : Int) ≤ 0 by decide)
    grind
  have h0 : vN .f64 y ≠ 0 := by rw [hP]; exact P1
  obtain ⟨r1, r2⟩ := fop_quo_ok fa fp h0 (q := qd) (by rw [hX, hP]; exact hqd) (by
    have a1 := p2_two 126
    have a2 := p2_two 127
    have a3 := p2_mono (show (128 : Int) ≤ 1000 by decide)
    have a4 : 1 ≤ p2 127 := one_le_p2 127
    have a5 : p2 126 + p2 126 = p2 127 := p2_two 126
    have a6 : p2 127 + p2 127 = p2 128 := p2_two 127
    grind)
  refine near1_nw r1 (i := -972) ?_ (by decide) hqt
  have s1 := A_add (vN .f64 (fop .quo .f64 x y) - qd) (qd - q)
  rw [show vN .f64 (fop .quo .f64 x y) - qd + (qd - q) = vN .f64 (fop .quo .f64 x y) - q by grind] at s1
  have s2 : p2 (-52) * A qd ≤ p2 (-52) * (2 * A q + 1) := Rat.mul_le_mul_of_nonneg_left k6 (Rat.le_of_lt (p2_pos _))
  have s3 : p2 (-52) * A qd ≤ p2 (-52) * (A q + (p2 (-50) * A q + p2 (-974))) := Rat.mul_le_mul_of_nonneg_left (by grind) (Rat.le_of_lt (p2_pos _))
  have s4 : p2 (-52) * (p2 (-50) * A q) ≤ 1 * (p2 (-52) * A q) := by
    have := Rat.mul_le_mul_of_nonneg_right (p2_small (show (-50 : Int) ≤ 0 by decide)) (Rat.mul_nonneg (Rat.le_of_lt (p2_pos (-52))) hq0)
    grind
  have s5 : p2 (-52) * p2 (-974) ≤ 1 * p2 (-974) := Rat.mul_le_mul_of_nonneg_right (p2_small (by decide)) (Rat.le_of_lt (p2_pos _))
  have s6 := p2_mono (show (-1075 : Int) ≤ -974 by decide)
  have g0 : p2 (-49) = p2 (-50) + p2 (-50) := p2_dbl (by omega)
  have g1 : p2 (-50) = p2 (-51) + p2 (-51) := p2_dbl (by omega)
  have g2 : p2 (-51) = p2 (-52) + p2 (-52) := p2_dbl (by omega)
  have g3 : p2 (-972) = p2 (-973) + p2 (-973) := p2_dbl (by omega)
  have g4 : p2 (-973) = p2 (-974) + p2 (-974) := p2_dbl (by omega)
  have g5 := p2_pos (-974)
  have g6 := Rat.mul_nonneg (Rat.le_of_lt (p2_pos (-52))) hq0
  clear s2 k6 k5 k2 k3 k1 d1 d2 d3 hqt hX hP ha hp hpl h0 fa fp r1 hAa
  rw [g3, g4, g0]
  rw [g1, g2] at k4 s3 s4 ⊢
  clear g0 g1 g2 g3 g4
  generalize p2 (-52) = c at *
  generalize p2 (-974) = d at *
  generalize p2 (-1075) = e at *
  generalize A (vN .f64 (fop .quo .f64 x y) - q) = B0 at *
  generalize A (vN .f64 (fop .quo .f64 x y) - qd) = B1 at *
  generalize A (qd - q) = B2 at *
  generalize A qd = B3 at *
  generalize A q = B4 at *
  grind

/-- The square of the length. -/
def sqN (z : Q2) : Rat := z.re * z.re + z.im * z.im
theorem sq_A (x : Rat) : x * x = A x * A x := by unfold A; split <;> grind
theorem sq_nonneg (x : Rat) : 0 ≤ x * x := by rw [sq_A]; exact Rat.mul_nonneg (A_nonneg x) (A_nonneg x)
theorem sqN_ge (z : Q2) : N z * N z ≤ 2 * sqN z := by
  have h := sq_nonneg (A z.re - A z.im)
  unfold sqN N
  rw [sq_A z.re, sq_A z.im]
  grind
theorem sqN_le (z : Q2) : sqN z ≤ N z * N z := by
  have h := Rat.mul_nonneg (A_nonneg z.re) (A_nonneg z.im)
  unfold sqN N
  rw [sq_A z.re, sq_A z.im]
  grind

theorem powerF_ok {s : C2} (hs : fC s) (h2 : N (cv s) < p2 100) : fN .f64 (powerF s) = true ∧ A (vN .f64 (powerF s) - sqN (cv s)) ≤ p2 (-53) * A (sqN (cv s)) + p2 (-1075) := by
  have a1 : A (vN .f32 s.1) ≤ N (cv s) := re_le_N (cv s)
  have a2 : A (vN .f32 s.2) ≤ N (cv s) := im_le_N (cv s)
  have m1 := p2_mono (show (100 : Int) ≤ 200 by decide)
  obtain ⟨p1, p2'⟩ := prod_exact hs.1 hs.1 (by grind) (by grind)
  obtain ⟨q1, q2⟩ := prod_exact hs.2 hs.2 (by grind) (by grind)
  refine sum_near p1 p2' q1 q2 ?_
  have b1 := sqN_le (cv s)
  have b2 := mul_le (Rat.le_of_lt h2) (Rat.le_of_lt h2) (N_nonneg _) (Rat.le_of_lt (p2_pos 100))
  rw [← p2_add] at b2
  have b3 := p2_mono (show (100 + 100 : Int) ≤ 499 by decide)
  have b4 : p2 499 + p2 499 = p2 500 := p2_two 499
  have b5 := p2_pos 499
  have b6 : 0 ≤ sqN (cv s) := by have := sq_nonneg (cv s).re; have := sq_nonneg (cv s).im; unfold sqN; grind
  show A (sqN (cv s)) < p2 500
  rw [A_of_nonneg b6]
  grind

/-- A quotient: near the exact one. -/
theorem quoC_near {v s : C2} {q : Q2} (hv : fC v) (hs : fC s) (hq : q * cv s = cv v) (h1 : N (cv v) < p2 126) (h2 : N (cv s) < p2 100) (h3 : p2 (-40) ≤ N (cv s)) (h4 : N q < p2 126) :
    quoFit v s ∧ Near (quoC v s) q := by
  obtain ⟨c1, c2⟩ := conjC_ok hs
  have hNc : N (cv (conjC s)) = N (cv s) := by rw [c2]; unfold N; rw [A_neg]
  have m1 := p2_mono (show (126 : Int) ≤ 200 by decide)
  have m2 := p2_mono (show (100 : Int) ≤ 200 by decide)
  have hm := N_mul (cv v) (cv (conjC s))
  rw [hNc] at hm
  have h5 := mul_le (Rat.le_of_lt h1) (Rat.le_of_lt h2) (N_nonneg _) (Rat.le_of_lt (p2_pos 126))
  rw [← p2_add] at h5
  have m3 := p2_mono (show (126 + 100 : Int) ≤ 499 by decide)
  have m4 : p2 499 + p2 499 = p2 500 := p2_two 499
  have m5 := p2_pos 499
  obtain ⟨⟨t1, t2⟩, t3, t4⟩ := times_ok hv c1 (by grind) (by rw [hNc]; grind) (by grind)
  obtain ⟨w1, w2⟩ := powerF_ok hs h2
  have hp : p2 (-100) ≤ sqN (cv s) := by
    have a1 := sqN_ge (cv s)
    have a2 := mul_le h3 h3 (Rat.le_of_lt (p2_pos _)) (N_nonneg (cv s))
    rw [← p2_add] at a2
    have a3 := p2_mono (show (-99 : Int) ≤ -40 + -40 by decide)
    have a4 : p2 (-99) = p2 (-100) + p2 (-100) := p2_dbl (by omega)
    grind
  have e1 : q.re * sqN (cv s) = (cv v * cv (conjC s)).re := by
    rw [c2, ← hq]; simp only [re_mul, im_mul, sqN]; grind
  have e2 : q.im * sqN (cv s) = (cv v * cv (conjC s)).im := by
    rw [c2, ← hq]; simp only [re_mul, im_mul, sqN]; grind
  have n1 := re_le_N q; have n2 := im_le_N q
  obtain ⟨f1, g1⟩ := quo_part t1 t2 w1 w2 hp e1 (by grind)
  obtain ⟨f2, g2⟩ := quo_part t3 t4 w1 w2 hp e2 (by grind)
  exact ⟨⟨f1, f2⟩, near_mk g1 g2⟩
/-- A quotient by 0: no number, but narrowed as it is. -/
theorem quoC_zero {v s : C2} (hv : fC v) (hs : fC s) (h0 : N (cv s) = 0) (h1 : N (cv v) < p2 126) : quoFit v s ∧ ¬ fC (quoC v s) := by
  obtain ⟨c1, c2⟩ := conjC_ok hs
  have hNc : N (cv (conjC s)) = 0 := by rw [c2, ← h0]; unfold N; rw [A_neg]
  have m1 := p2_mono (show (126 : Int) ≤ 200 by decide)
  have hm := N_mul (cv v) (cv (conjC s))
  rw [hNc] at hm
  have z1 := p2_pos 200; have z2 := p2_pos 500; have z3 := p2_pos 100
  obtain ⟨⟨t1, _⟩, t3, _⟩ := times_ok hv c1 (by grind) (by rw [hNc]; grind) (by grind)
  obtain ⟨w1, w2⟩ := powerF_ok hs (by rw [h0]; exact z3)
  have hz : sqN (cv s) = 0 := by
    have a1 := sqN_le (cv s)
    have a2 : 0 ≤ sqN (cv s) := by have := sq_nonneg (cv s).re; have := sq_nonneg (cv s).im; unfold sqN; grind
    rw [h0] at a1; grind
  have n1 := A_nonneg (cv s).re; have n2 := A_nonneg (cv s).im
  have r0 : vN .f32 s.1 = 0 := A_eq_zero (show A (cv s).re = 0 by unfold N at h0; grind)
  have i0 : vN .f32 s.2 = 0 := A_eq_zero (show A (cv s).im = 0 by unfold N at h0; grind)
  have hw : vN .f64 (powerF s) = 0 := by
    have a1 : A (vN .f32 s.1) < p2 200 := by rw [r0, A_zero]; exact z1
    have a2 : A (vN .f32 s.2) < p2 200 := by rw [i0, A_zero]; exact z1
    obtain ⟨p1, p2'⟩ := prod_exact hs.1 hs.1 a1 a1
    obtain ⟨q1, q2⟩ := prod_exact hs.2 hs.2 a2 a2
    have e0 : vN .f64 (fop .mul .f64 (wd s.1) (wd s.1)) + vN .f64 (fop .mul .f64 (wd s.2) (wd s.2)) = 0 := by rw [p2', q2, r0, i0]; grind
    have hR := fop_add_res (k := .f64) p1 q1 (by rw [e0, A_zero]; exact p2_pos _)
    have := hR.2.2 0 0 (by rw [e0, A_zero, show ((0 : Nat) : Rat) = 0 from rfl]; grind) (by decide) (by decide)
    rw [e0] at this
    exact this
  have k1 := nw_not (fop_quo_zero t1 w1 hw)
  have k2 := nw_not (fop_quo_zero t3 w1 hw)
  refine ⟨⟨k1.1, k2.1⟩, fun h => ?_⟩
  have := h.1
  rw [show (quoC v s).1 = nw (fop .quo .f64 (timesF v (conjC s)).1 (powerF s)) from rfl, k1.2] at this
  cases this
end Go.Proofs.YtdnoilcfgicnnaaGreat

/- Horner's rule of float32 on values: its error; polynomials of two, three and four terms whose last is 1, and their slopes. Conditions: nothing is too great. -/
namespace Go.Proofs.YtdnoilcfgicnnaaGreat
set_option linter.unusedSimpArgs false
set_option linter.unusedVariables false
open Go

def one2 : Q2 := ⟨1, 0⟩
def two2 : Q2 := ⟨2, 0⟩
def three2 : Q2 := ⟨3, 0⟩

/-- One step of Horner's rule: what is added to the error. -/
theorem horner_step {v z k : C2} {V : Q2} {E m r : Rat} (hv : fC v) (hz : fC z) (hk : fC k) (hE : N (cv v - V) ≤ E) (hm : N V ≤ m) (hr : N (cv z) ≤ r)
    (h1 : m + E < p2 200) (h2 : r < p2 200) (h3 : (m + E) * r < p2 125) {m' : Rat} (hm' : N (V * cv z + cv k) ≤ m') (h4 : m' + E * r < p2 125) :
    fit2 (timesF v z) ∧ fC (addC (mulC v z) k) ∧
    N (cv (addC (mulC v z) k) - (V * cv z + cv k)) ≤ E * r + u1 * ((m + E) * r) + e1 + (u1 * (m' + E * r + u1 * ((m + E) * r) + e1) + e1) := by
  have hu := u1_pos
  have hu4 : u1 ≤ 1 / 4 := by decide +kernel
  have he1 : e1 ≤ 1 := p2_small (by decide)
  obtain ⟨u, hu'⟩ : ∃ u, u1 = u := ⟨_, rfl⟩
  obtain ⟨e, he'⟩ : ∃ e, e1 = e := ⟨_, rfl⟩
  rw [hu'] at hu hu4 ⊢
  rw [he'] at he1 ⊢
  have t1 := N_tri (cv v) V
  have t2 := N_nonneg (cv v)
  have t3 := N_nonneg (cv z)
  have t4 := N_nonneg (cv v - V)
  have t5 := N_nonneg V
  have a1 : N (cv v * cv z) ≤ (m + E) * r := by
    have := N_mul (cv v) (cv z)
    have := mul_le (show N (cv v) ≤ m + E by grind) hr t3 (by grind)
    grind
  have b1 : p2 125 + p2 125 = p2 126 := p2_two 125
  have b2 : p2 126 + p2 126 = p2 127 := p2_two 126
  have b3 := p2_pos 125
  obtain ⟨f1, g1⟩ := mulC_near hv hz (by grind) (by grind) (by grind)
  have a2 : N (cv (mulC v z) - cv v * cv z) ≤ u * ((m + E) * r) + e := by
    have := g1.2
    rw [hu', he'] at this
    have := Rat.mul_le_mul_of_nonneg_left a1 (Rat.le_of_lt hu)
    grind
  have a3 : N ((cv v - V) * cv z) ≤ E * r := by
    have := N_mul (cv v - V) (cv z)
    have := mul_le hE hr t3 (by grind)
    grind
  have a4 : N (cv (mulC v z) + cv k) ≤ m' + E * r + u * ((m + E) * r) + e := by
    have eq : cv (mulC v z) + cv k = (V * cv z + cv k) + ((cv v - V) * cv z + (cv (mulC v z) - cv v * cv z)) := q2e (by simp; grind) (by simp; grind)
    rw [eq]
    have c1 := N_add (V * cv z + cv k) ((cv v - V) * cv z + (cv (mulC v z) - cv v * cv z))
    have c2 := N_add ((cv v - V) * cv z) (cv (mulC v z) - cv v * cv z)
    grind
  have hu1 : u * ((m + E) * r) ≤ 1 / 4 * p2 125 := by
    have h0 : 0 ≤ (m + E) * r := Rat.mul_nonneg (by grind) (by grind)
    have := Rat.mul_le_mul_of_nonneg_right hu4 h0
    grind
  have hb : (1 : Rat) ≤ 1 / 4 * p2 125 := by decide +kernel
  have g2 := addC_near g1.1 hk (by grind)
  refine ⟨f1, g2.1, ?_⟩
  have eq : cv (addC (mulC v z) k) - (V * cv z + cv k) = ((cv v - V) * cv z + (cv (mulC v z) - cv v * cv z)) + (cv (addC (mulC v z) k) - (cv (mulC v z) + cv k)) := q2e (by simp; grind) (by simp; grind)
  rw [eq]
  have c1 := N_add ((cv v - V) * cv z + (cv (mulC v z) - cv v * cv z)) (cv (addC (mulC v z) k) - (cv (mulC v z) + cv k))
  have c2 := N_add ((cv v - V) * cv z) (cv (mulC v z) - cv v * cv z)
  have c3 := g2.2
  rw [hu', he'] at c3
  have c4 := Rat.mul_le_mul_of_nonneg_left a4 (Rat.le_of_lt hu)
  grind
end Go.Proofs.YtdnoilcfgicnnaaGreat

/- Horner's rule on values: the error of two and three steps, as a polynomial of the number's norm. Conditions: nothing is too great. -/
namespace Go.Proofs.YtdnoilcfgicnnaaGreat
set_option linter.unusedSimpArgs false
set_option linter.unusedVariables false
open Go

/-- The constants of relative errors, growing a little step by step. -/
def Ua : Rat := 1 / 16777216 + 1 / 70368744177664
def Ub : Rat := 1 / 16777216 + 1 / 35184372088832
def Uc : Rat := 1 / 16777216 + 1 / 17592186044416
theorem Ua_ok : u1 * (1 + u1) ≤ Ua ∧ 0 * (1 + 3 * u1) ≤ Ua ∧ 0 ≤ Ua ∧ Ua ≤ 1 / 1048576 := by decide +kernel
theorem Ub_ok : u1 * (1 + u1) ≤ Ub ∧ Ua * (1 + 3 * u1) ≤ Ub ∧ 0 ≤ Ub ∧ Ub ≤ 1 / 1048576 := by decide +kernel
theorem Uc_ok : u1 * (1 + u1) ≤ Uc ∧ Ub * (1 + 3 * u1) ≤ Uc ∧ 0 ≤ Uc ∧ Uc ≤ 1 / 1048576 := by decide +kernel

theorem step_bound {E P t m m' r u e Uk Uk' : Rat} (hE : E ≤ Uk * P + t) (hE0 : 0 ≤ E) (hP : 0 ≤ P) (ht : 0 ≤ t) (hm : 0 ≤ m) (hm' : 0 ≤ m') (hr : 0 ≤ r) (hu : 0 ≤ u) (hu4 : u ≤ 1 / 4) (he : 0 ≤ e)
    (hk1 : u * (1 + u) ≤ Uk') (hk2 : Uk * (1 + 3 * u) ≤ Uk') (hk : 0 ≤ Uk) :
    E * r + u * ((m + E) * r) + e + (u * (m' + E * r + u * ((m + E) * r) + e) + e) ≤ Uk' * (P * r + m * r + m') + (2 * (t * r) + 3 * e) := by
  have hEr : E * r ≤ (Uk * P + t) * r := Rat.mul_le_mul_of_nonneg_right hE hr
  have hEr0 : 0 ≤ E * r := Rat.mul_nonneg hE0 hr
  have hmr : 0 ≤ m * r := Rat.mul_nonneg hm hr
  have hPr : 0 ≤ P * r := Rat.mul_nonneg hP hr
  have htr : 0 ≤ t * r := Rat.mul_nonneg ht hr
  generalize hx : E * r = x at *
  generalize hy : m * r = y at *
  generalize hz : P * r = z at *
  generalize hw : t * r = w at *
  have e1' : (m + E) * r = y + x := by rw [← hx, ← hy]; grind
  have e2' : (Uk * P + t) * r = Uk * z + w := by rw [← hz, ← hw]; grind
  rw [e2'] at hEr
  rw [e1']
  clear e1' e2' hx hy hz hw hE
  -- x (1 + 2u + u^2) <= x (1 + 3u)
  have huu : u * u ≤ u * 1 := Rat.mul_le_mul_of_nonneg_left (by grind) hu
  have k1 : u * u * x ≤ u * 1 * x := Rat.mul_le_mul_of_nonneg_right huu hEr0
  have k2 : (1 + 3 * u) * x ≤ (1 + 3 * u) * (Uk * z + w) := Rat.mul_le_mul_of_nonneg_left hEr (by grind)
  have k3 : Uk * (1 + 3 * u) * z ≤ Uk' * z := Rat.mul_le_mul_of_nonneg_right hk2 hPr
  have k4 : u * (1 + u) * y ≤ Uk' * y := Rat.mul_le_mul_of_nonneg_right hk1 hmr
  have k5 : u * (1 + u) * m' ≤ Uk' * m' := Rat.mul_le_mul_of_nonneg_right hk1 hm'
  have k6 : 0 ≤ u * u * m' := Rat.mul_nonneg (Rat.mul_nonneg hu hu) hm'
  have k7 : u * w ≤ 1 / 4 * w := Rat.mul_le_mul_of_nonneg_right hu4 htr
  have k8 : u * e ≤ 1 / 4 * e := Rat.mul_le_mul_of_nonneg_right hu4 he
  grind

/-- A value of Horner's rule: computed 'v' for the exact 'V'. -/
structure Hs (v : C2) (V : Q2) (P m t Uk : Rat) : Prop where
  f : fC v
  err : N (cv v - V) ≤ Uk * P + t
  le : N V ≤ m
  P0 : 0 ≤ P
  t0 : 0 ≤ t
theorem Hs.m0 {v : C2} {V : Q2} {P m t Uk : Rat} (h : Hs v V P m t Uk) : 0 ≤ m := by have := N_nonneg V; have := h.le; grind

theorem hs_step {v z k : C2} {V : Q2} {P m t Uk Uk' r b : Rat} (h : Hs v V P m t Uk) (hz : fC z) (hk : fC k) (hr : N (cv z) ≤ r) (hb : N (cv k) ≤ b)
    (hU : u1 * (1 + u1) ≤ Uk' ∧ Uk * (1 + 3 * u1) ≤ Uk' ∧ 0 ≤ Uk' ∧ Uk' ≤ 1 / 1048576) (hUk : 0 ≤ Uk ∧ Uk ≤ 1 / 1048576) (hs1 : m + P * (1 / 1048576) + t < p2 200) (hs2 : r < p2 200) (hs3 : (m + P * (1 / 1048576) + t) * r + b < p2 124) :
    fit2 (timesF v z) ∧ Hs (addC (mulC v z) k) (V * cv z + cv k) (P * r + m * r + (m * r + b)) (m * r + b) (2 * (t * r) + 3 * e1) Uk' := by
  have hm := h.m0
  have hP := h.P0
  have ht := h.t0
  have hr0 : 0 ≤ r := by have := N_nonneg (cv z); grind
  have hb0 : 0 ≤ b := by have := N_nonneg (cv k); grind
  have hUP : Uk * P ≤ 1 / 1048576 * P := Rat.mul_le_mul_of_nonneg_right hUk.2 hP
  have hUP0 : 0 ≤ Uk * P := Rat.mul_nonneg hUk.1 hP
  have hm' : N (V * cv z + cv k) ≤ m * r + b := by
    have a1 := N_add (V * cv z) (cv k)
    have a2 := N_mul V (cv z)
    have a3 := mul_le h.le hr (N_nonneg _) hm
    grind
  have hb1 : p2 124 + p2 124 = p2 125 := p2_two 124
  have hb2 := p2_pos 124
  have s1 : (m + (Uk * P + t)) * r ≤ (m + P * (1 / 1048576) + t) * r := Rat.mul_le_mul_of_nonneg_right (by grind) hr0
  have s2 : (m + (Uk * P + t)) * r = m * r + (Uk * P + t) * r := by grind
  have s3 : 0 ≤ (Uk * P + t) * r := Rat.mul_nonneg (by grind) hr0
  have s4 : 0 ≤ m * r := Rat.mul_nonneg hm hr0
  obtain ⟨a1, a2, a3⟩ := horner_step h.f hz hk h.err h.le hr (by grind) hs2 (by grind) hm' (by grind)
  have hu := u1_pos
  have he := e1_pos
  have hu4 : u1 ≤ 1 / 4 := by decide +kernel
  have hst := step_bound (Rat.le_refl (a := Uk * P + t)) (by grind) hP ht hm (show 0 ≤ m * r + b by grind) hr0 (Rat.le_of_lt hu) hu4 (Rat.le_of_lt he) hU.1 hU.2.1 hUk.1
  refine ⟨a1, a2, Rat.le_trans a3 hst, hm', ?_, ?_⟩
  · have := Rat.mul_nonneg hP hr0
    grind
  · have := Rat.mul_nonneg ht hr0
    grind
theorem hs_zero {v : C2} {V : Q2} {m : Rat} (hf : fC v) (hv : cv v = V) (hm : N V ≤ m) : Hs v V 0 m 0 0 := by
  refine ⟨hf, ?_, hm, Rat.le_refl, Rat.le_refl⟩
  rw [hv]
  have : V - V = ⟨0, 0⟩ := q2e (by simp; grind) (by simp; grind)
  rw [this]; decide +kernel
end Go.Proofs.YtdnoilcfgicnnaaGreat

/- Polynomials of two, three and four terms whose last is 1: their slopes; the shape of a Newton step. Conditions: as told. -/
namespace Go.Proofs.YtdnoilcfgicnnaaGreat
set_option linter.unusedSimpArgs false
set_option linter.unusedVariables false
open Go

abbrev kf (k : Nat) : Nat := nrm .f32 (floatOfInt .f32 ((k : Nat) : Int))
theorem kf_val {k m : Nat} {e : Int} (h : FloatKind.f32.decode (kf k) = .number false m e) (hq : (m : Rat) * p2 e = (k : Rat)) : fN .f32 (kf k) = true ∧ vN .f32 (kf k) = (k : Rat) := by
  unfold fN vN
  rw [h]
  exact ⟨rfl, hq⟩
theorem kf1 : fN .f32 (kf 1) = true ∧ vN .f32 (kf 1) = 1 := kf_val (m := 8388608) (e := -23) (by decide +kernel) (by decide +kernel)
theorem kf2 : fN .f32 (kf 2) = true ∧ vN .f32 (kf 2) = 2 := kf_val (m := 8388608) (e := -22) (by decide +kernel) (by decide +kernel)
theorem kf3 : fN .f32 (kf 3) = true ∧ vN .f32 (kf 3) = 3 := kf_val (m := 12582912) (e := -22) (by decide +kernel) (by decide +kernel)

theorem scale1 {x : C2} (hx : fC x) (hn : N (cv x) < p2 100) : fC (scaleC x (kf 1)) ∧ cv (scaleC x (kf 1)) = cv x := by
  have m1 := p2_mono (show (100 : Int) ≤ 127 by decide)
  have key : ∀ y, fN .f32 y = true → A (vN .f32 y) < p2 100 → fN .f32 (fop .mul .f32 y (kf 1)) = true ∧ vN .f32 (fop .mul .f32 y (kf 1)) = vN .f32 y := by
    intro y hy ha
    have e : vN .f32 y * vN .f32 (kf 1) = vN .f32 y := by rw [kf1.2]; grind
    have hR := fop_mul_res hy kf1.1 (by rw [e]; show _ < p2 127; grind)
    rw [e] at hR
    obtain ⟨m, i, a1, a2, a3⟩ := vN_lt .f32 hy
    exact ⟨hR.1, hR.2.2 m i a1 a2 a3⟩
  have a1 : A (vN .f32 x.1) ≤ N (cv x) := re_le_N (cv x)
  have a2 : A (vN .f32 x.2) ≤ N (cv x) := im_le_N (cv x)
  obtain ⟨b1, b2⟩ := key x.1 hx.1 (by grind)
  obtain ⟨c1, c2⟩ := key x.2 hx.2 (by grind)
  exact ⟨⟨b1, c1⟩, q2e b2 c2⟩
theorem scale2 {x : C2} (hx : fC x) (hn : N (cv x) < p2 100) : fC (scaleC x (kf 2)) ∧ cv (scaleC x (kf 2)) = cv x + cv x := by
  have m1 := p2_mono (show (101 : Int) ≤ 127 by decide)
  have m2 : p2 100 + p2 100 = p2 101 := p2_two 100
  have key : ∀ y, fN .f32 y = true → A (vN .f32 y) < p2 100 → fN .f32 (fop .mul .f32 y (kf 2)) = true ∧ vN .f32 (fop .mul .f32 y (kf 2)) = vN .f32 y + vN .f32 y := by
    intro y hy ha
    have e : vN .f32 y * vN .f32 (kf 2) = vN .f32 y + vN .f32 y := by rw [kf2.2]; grind
    have e2 : A (vN .f32 y + vN .f32 y) = A (vN .f32 y) + A (vN .f32 y) := by
      rw [show vN .f32 y + vN .f32 y = 2 * vN .f32 y by grind, A_mul, show A 2 = 2 from rfl]; grind
    have hR := fop_mul_res hy kf2.1 (by rw [e, e2]; show _ < p2 127; grind)
    rw [e] at hR
    obtain ⟨m, i, a1, a2, a3⟩ := vN_lt .f32 hy
    refine ⟨hR.1, hR.2.2 m (i + 1) ?_ a2 (by omega)⟩
    rw [e2, a1, p2_dbl rfl]; grind
  have a1 : A (vN .f32 x.1) ≤ N (cv x) := re_le_N (cv x)
  have a2 : A (vN .f32 x.2) ≤ N (cv x) := im_le_N (cv x)
  obtain ⟨b1, b2⟩ := key x.1 hx.1 (by grind)
  obtain ⟨c1, c2⟩ := key x.2 hx.2 (by grind)
  exact ⟨⟨b1, c1⟩, q2e b2 c2⟩
theorem scale3 {x : C2} (hx : fC x) (h1 : cv x = one2) : fC (scaleC x (kf 3)) ∧ cv (scaleC x (kf 3)) = three2 := by
  have h3 : vN .f32 x.1 = 1 := congrArg Q2.re h1
  have h4 : vN .f32 x.2 = 0 := congrArg Q2.im h1
  have e1' : vN .f32 x.1 * vN .f32 (kf 3) = 3 := by rw [kf3.2, h3]; decide +kernel
  have e2' : vN .f32 x.2 * vN .f32 (kf 3) = 0 := by rw [kf3.2, h4]; decide +kernel
  have r1 := fop_mul_res hx.1 kf3.1 (by rw [e1']; show A 3 < p2 127; decide +kernel)
  have r2 := fop_mul_res hx.2 kf3.1 (by rw [e2']; show A 0 < p2 127; decide +kernel)
  rw [e1'] at r1
  rw [e2'] at r2
  exact ⟨⟨r1.1, r2.1⟩, q2e (r1.2.2 3 0 (by decide +kernel) (by decide) (by decide)) (r2.2.2 0 0 (by decide +kernel) (by decide) (by decide))⟩

theorem not_zeroC {x : C2} (hx : fC x) (h : (cv x).re ≠ 0) : zeroC x = false := by
  have hf := (fC_iff x).1 hx
  cases hz : zeroC x with
  | false => rfl
  | true => exact absurd ((zeroC_iff hf).1 hz).1 h
theorem fin_not_zero {x : C2} (hx : fC x) {q : Q2} (hq : cv x = q) (h : q.re ≠ 0) : finC x = true ∧ zeroC x = false := ⟨(fC_iff x).1 hx, not_zeroC hx (by rw [hq]; exact h)⟩

theorem poly_of {F : List C2} (hl : 1 < F.length) (hf : F.all finC = true) (hz : zeroC (F.getD (F.length - 1) (0, 0)) = false) : validF F = true ∧ polyF F = (F, true) := by
  have hv : validF F = true := by unfold validF; rw [hf, hz]; simp
  have ht : trimF F = F := by unfold trimF; rw [trimN_stop hl hz]; simp
  exact ⟨hv, by unfold polyF; rw [ht, if_pos hv]⟩
theorem poly_one {x : C2} (hf : finC x = true) : validF [x] = true ∧ polyF [x] = ([x], true) := by
  have hv : validF [x] = true := by unfold validF; simp [hf]
  have ht : trimF [x] = [x] := by unfold trimF; rw [trimN_small (by simp)]; simp
  exact ⟨hv, by unfold polyF; rw [ht, if_pos hv]⟩

theorem slope4 {D C B L : C2} (hD : fC D) (hC : fC C) (hB : fC B) (hL : fC L) (h1 : cv L = one2) (nC : N (cv C) < p2 100) (nB : N (cv B) < p2 100) :
    rootedF [D, C, B, L] = true ∧ validF [D, C, B, L] = true ∧ ∃ C' B' L', slopePolyF [D, C, B, L] = ([C', B', L'], true) ∧ validF [C', B', L'] = true ∧ fC C' ∧ fC B' ∧ fC L' ∧ cv C' = cv C ∧ cv B' = cv B + cv B ∧ cv L' = three2 := by
  obtain ⟨c1, c2⟩ := scale1 hC nC
  obtain ⟨b1, b2⟩ := scale2 hB nB
  obtain ⟨l1, l2⟩ := scale3 hL h1
  obtain ⟨f1, f2⟩ := fin_not_zero hL h1 (by decide)
  obtain ⟨g1, g2⟩ := fin_not_zero l1 l2 (by decide)
  have hv : validF [D, C, B, L] = true := (poly_of (by simp) (by simp [f1, (fC_iff _).1 hD, (fC_iff _).1 hC, (fC_iff _).1 hB]) (by simpa using f2)).1
  refine ⟨by unfold rootedF; rw [hv]; rfl, hv, _, _, _, ?_, ?_, c1, b1, l1, c2, b2, l2⟩
  · unfold slopePolyF
    rw [if_pos hv]
    exact (poly_of (F := [scaleC C (kf 1), scaleC B (kf 2), scaleC L (kf 3)]) (by simp) (by simp [g1, (fC_iff _).1 c1, (fC_iff _).1 b1]) (by simpa using g2)).2
  · exact (poly_of (F := [scaleC C (kf 1), scaleC B (kf 2), scaleC L (kf 3)]) (by simp) (by simp [g1, (fC_iff _).1 c1, (fC_iff _).1 b1]) (by simpa using g2)).1
theorem slope3 {C B L : C2} (hC : fC C) (hB : fC B) (hL : fC L) (h1 : cv L = one2) (nB : N (cv B) < p2 100) :
    rootedF [C, B, L] = true ∧ validF [C, B, L] = true ∧ ∃ B' L', slopePolyF [C, B, L] = ([B', L'], true) ∧ validF [B', L'] = true ∧ fC B' ∧ fC L' ∧ cv B' = cv B ∧ cv L' = two2 := by
  obtain ⟨b1, b2⟩ := scale1 hB nB
  obtain ⟨l1, l2⟩ := scale2 hL (by rw [h1]; decide +kernel)
  rw [h1] at l2
  have l2' : cv (scaleC L (kf 2)) = two2 := l2.trans (q2e (by decide +kernel) (by decide +kernel))
  obtain ⟨f1, f2⟩ := fin_not_zero hL h1 (by decide)
  obtain ⟨g1, g2⟩ := fin_not_zero l1 l2' (by decide)
  have hv : validF [C, B, L] = true := (poly_of (by simp) (by simp [f1, (fC_iff _).1 hC, (fC_iff _).1 hB]) (by simpa using f2)).1
  refine ⟨by unfold rootedF; rw [hv]; rfl, hv, _, _, ?_, ?_, b1, l1, b2, l2'⟩
  · unfold slopePolyF
    rw [if_pos hv]
    exact (poly_of (F := [scaleC B (kf 1), scaleC L (kf 2)]) (by simp) (by simp [g1, (fC_iff _).1 b1]) (by simpa using g2)).2
  · exact (poly_of (F := [scaleC B (kf 1), scaleC L (kf 2)]) (by simp) (by simp [g1, (fC_iff _).1 b1]) (by simpa using g2)).1
theorem slope2 {B L : C2} (hB : fC B) (hL : fC L) (h1 : cv L = one2) :
    rootedF [B, L] = true ∧ validF [B, L] = true ∧ ∃ L', slopePolyF [B, L] = ([L'], true) ∧ validF [L'] = true ∧ fC L' ∧ cv L' = one2 := by
  obtain ⟨l1, l2⟩ := scale1 hL (by rw [h1]; decide +kernel)
  rw [h1] at l2
  obtain ⟨f1, f2⟩ := fin_not_zero hL h1 (by decide)
  obtain ⟨g1, g2⟩ := fin_not_zero l1 l2 (by decide)
  have hv : validF [B, L] = true := (poly_of (by simp) (by simp [f1, (fC_iff _).1 hB]) (by simpa using f2)).1
  refine ⟨by unfold rootedF; rw [hv]; rfl, hv, _, ?_, ?_, l1, l2⟩
  · unfold slopePolyF
    rw [if_pos hv]
    exact (poly_one (x := scaleC L (kf 1)) g1).2
  · exact (poly_one (x := scaleC L (kf 1)) g1).1

/-- The shape of a Newton step. -/
theorem step_shape {F S : List C2} {z : C2} (hr : rootedF F = true) (hv : validF F = true) (hS : slopePolyF F = (S, true)) (hSv : validF S = true) (hz : fC z) (h1 : fC (nestedF F z)) (h2 : fC (nestedF S z)) :
    stepF F z = (if zeroC (nestedF F z) = true then (z, true) else if finC (quoC (nestedF F z) (nestedF S z)) = true then finiteX (subC z (quoC (nestedF F z) (nestedF S z))) else ((0, 0), false)) ∧
    (safeStep F z ↔ safeN F z ∧ safeN S z ∧ quoFit (nestedF F z) (nestedF S z)) := by
  have hz' := (fC_iff z).1 hz
  have h1' := (fC_iff _).1 h1
  have h2' := (fC_iff _).1 h2
  have e1 : polyAtF F z = (nestedF F z, true) := by unfold polyAtF finiteX; rw [if_pos ⟨hv, hz'⟩, if_pos h1']
  have e2 : polyAtF S z = (nestedF S z, true) := by unfold polyAtF finiteX; rw [if_pos ⟨hSv, hz'⟩, if_pos h2']
  refine ⟨?_, ?_⟩
  · unfold stepF
    simp only [hr, hz', hS, e1, e2, Bool.and_self, if_true, Bool.true_and]
  · unfold safeStep
    rw [hS, e1, e2]
end Go.Proofs.YtdnoilcfgicnnaaGreat
