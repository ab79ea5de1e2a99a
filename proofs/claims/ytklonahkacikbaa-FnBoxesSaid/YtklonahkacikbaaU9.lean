/- Plain facts of values: whole numbers, roots of squares. Conditions: as told. -/
import Derived.Test.YtklonahkacikbaaU8
import Derived.Test.YtklonahkacikbaaU5
import Derived.Test.YtklonahkacikbaaU6
namespace Go.Proofs.Ytklonahkacikbaa
open Go
set_option linter.unusedSimpArgs false
set_option linter.unusedVariables false

theorem A_int (i : Int) : A (i : Rat) = ((i.natAbs : Nat) : Rat) := by
  rcases Int.le_total 0 i with h | h
  · have h1 : ((i.natAbs : Nat) : Rat) = (i : Rat) := by rw [← Rat.intCast_natCast]; congr 1; omega
    rw [h1, A_of_nonneg (by exact_mod_cast h)]
  · have h1 : ((i.natAbs : Nat) : Rat) = -(i : Rat) := by rw [← Rat.intCast_natCast, ← Rat.intCast_neg]; congr 1; omega
    rw [h1, A_of_nonpos (by exact_mod_cast h)]
theorem A_intm (i : Int) {e : Rat} (he : 0 ≤ e) : A ((i : Rat) * e) = ((i.natAbs : Nat) : Rat) * e := by rw [A_mul, A_int, A_of_nonneg he]
theorem mulb {a b U V : Int} (ha : -U ≤ a ∧ a ≤ U) (hb : -V ≤ b ∧ b ≤ V) : -(U * V) ≤ a * b ∧ a * b ≤ U * V := by
  have h1 : 0 ≤ (U - a) * (V + b) := Int.mul_nonneg (by omega) (by omega)
  have h2 : 0 ≤ (U + a) * (V - b) := Int.mul_nonneg (by omega) (by omega)
  have h3 : 0 ≤ (U - a) * (V - b) := Int.mul_nonneg (by omega) (by omega)
  have h4 : 0 ≤ (U + a) * (V + b) := Int.mul_nonneg (by omega) (by omega)
  constructor <;> grind
theorem fC0 : fC (0, 0) ∧ N (cv (0, 0)) ≤ p2 41 := by
  have h0 : FloatKind.f32.decode 0 = .number false 0 (-149) := by decide +kernel
  have h1 : fN .f32 0 = true := by unfold fN; rw [h0]; rfl
  have h2 : vN .f32 0 = 0 := by unfold vN; rw [h0]; decide +kernel
  refine ⟨⟨h1, h1⟩, ?_⟩
  show A (vN .f32 0) + A (vN .f32 0) ≤ p2 41
  rw [h2]; decide +kernel
theorem rootFrom_le (n : Nat) : ∀ todo root, root * root ≤ n → Ieee.Datum.rootFrom n todo root * Ieee.Datum.rootFrom n todo root ≤ n := by
  intro todo
  induction todo with
  | zero => exact fun root h => h
  | succ k ih =>
    intro root h
    unfold Ieee.Datum.rootFrom
    dsimp only
    split
    · rename_i h2; exact ih _ h2
    · exact ih _ h
theorem sq_le_sq {a b : Rat} (hb : 0 ≤ b) (h : a * a ≤ b * b) : a ≤ b := by
  rcases Rat.le_total (a := a) (b := b) with h1 | h1
  · exact h1
  · by_cases h0 : a = 0
    · rw [h0]; exact hb
    · have hp : 0 < a := by grind
      have := mul_le h1 (Rat.le_refl (a := a)) (Rat.le_of_lt hp) (Rat.le_of_lt hp)
      refine lcancel_le hp ?_
      have k := Rat.mul_le_mul_of_nonneg_left h1 hb
      grind
/-- Square roots fit. -/
theorem sqF_fit {y : Nat} (h : fN .f64 y = true) (hb : A (vN .f64 y) ≤ p2 90) : fit1 (sqF y) := by
  obtain ⟨s, m, i, hd⟩ := isNum_ex h
  have hv : A (vN .f64 y) = (m : Rat) * p2 i := by unfold vN; rw [hd, A_val]
  rw [hv] at hb
  have hq : sqF y = nrm .f64 (((Ieee.Datum.root 54 (.number s m i)).map FloatKind.f64.format.write).getD (qnan .f64)) := by
    unfold sqF Ieee.Format.sqrt
    rw [show FloatKind.f64.format.read y = .number s m i from hd]
    rfl
  rw [hq]
  unfold Ieee.Datum.root
  dsimp only
  have key : ∀ d : Ieee.Datum, isNum d = true → A (valD d) ≤ p2 60 → fit1 (nrm .f64 (((some d).map FloatKind.f64.format.write).getD (qnan .f64))) := by
    intro d h1 h2
    have h3 : p2 60 < p2 1023 := lt_of_p2 (Rat.le_refl (a := p2 60)) (by decide)
    obtain ⟨w1, w2, _⟩ := write_ok .f64 d h1 (show A (valD d) < p2 1023 by grind)
    have e1' : nrm .f64 (((some d).map FloatKind.f64.format.write).getD (qnan .f64)) = FloatKind.f64.encode d := fN_nrm w1
    rw [e1']
    refine (nw_ok w1 ?_).1
    have t1 := A_add (vN .f64 (FloatKind.f64.encode d) - valD d) (valD d)
    rw [show vN .f64 (FloatKind.f64.encode d) - valD d + valD d = vN .f64 (FloatKind.f64.encode d) by grind] at t1
    have u0 : uK .f64 ≤ 1 := by decide +kernel
    have u2 : eK .f64 ≤ 1 := by decide +kernel
    have u3 := Rat.mul_le_mul_of_nonneg_right u0 (A_nonneg (valD d))
    have u4 : 2 * p2 60 + 1 < p2 127 := by decide +kernel
    generalize uK .f64 = a at *
    generalize eK .f64 = b at *
    generalize p2 60 = c at *
    generalize p2 127 = g at *
    clear h3 hq hv hb
    grind
  by_cases hm : m = 0
  · rw [if_pos hm]
    refine key _ rfl ?_
    rw [A_val, hm, show ((0 : Nat) : Rat) = 0 from rfl]
    have := p2_pos 60
    grind
  · rw [if_neg hm]
    cases s
    · simp only [Bool.false_eq_true, if_false]
      generalize hmore : 2 * 54 - m.log2 + ((i - ((2 * 54 - m.log2 : Nat) : Int)) % 2).toNat = more
      obtain ⟨E, hE⟩ : ∃ E : Int, i - (more : Int) = 2 * E := ⟨(i - (more : Int)) / 2, by omega⟩
      have hE2 : (i - (more : Int)) / 2 - 1 = E - 1 := by omega
      have hwl := rootFrom_le (m <<< more) ((m <<< more).log2 / 2 + 1) 0 (by simp)
      generalize Ieee.Datum.rootFrom (m <<< more) ((m <<< more).log2 / 2 + 1) 0 = wh at *
      rw [hE2]
      refine key _ rfl ?_
      rw [A_val]
      have hst : ((2 * wh + (wh * wh != m <<< more).toNat : Nat) : Rat) ≤ 2 * (wh : Rat) + 1 := by
        have : 2 * wh + (wh * wh != m <<< more).toNat ≤ 2 * wh + 1 := by
          have := Bool.toNat_le (wh * wh != m <<< more); omega
        have h2 : ((2 * wh + (wh * wh != m <<< more).toNat : Nat) : Rat) ≤ ((2 * wh + 1 : Nat) : Rat) := by exact_mod_cast this
        rw [Rat.natCast_add (2 * wh) 1, Rat.natCast_mul] at h2
        exact h2
      rw [Nat.shiftLeft_eq] at hwl
      have hwl2 : ((wh : Nat) : Rat) * (wh : Rat) ≤ (m : Rat) * p2 (more : Int) := by
        rw [p2_nat, ← Rat.natCast_mul, ← Rat.natCast_mul]; exact_mod_cast hwl
      have m1 : (1 : Rat) ≤ (m : Rat) := by exact_mod_cast Nat.pos_of_ne_zero hm
      have pE := p2_pos E
      have p2E : p2 E * p2 E = p2 (i - (more : Int)) := by rw [← p2_add]; congr 1; omega
      have pim : p2 (more : Int) * p2 (i - (more : Int)) = p2 i := by rw [← p2_add]; congr 1; omega
      have p90 : p2 90 = p2 45 * p2 45 := by rw [← p2_add]; rfl
      have w1 : (wh : Rat) * p2 E ≤ p2 45 := by
        refine sq_le_sq (Rat.le_of_lt (p2_pos 45)) ?_
        rw [← p90]
        have a1 := Rat.mul_le_mul_of_nonneg_right hwl2 (Rat.le_of_lt (p2_pos (i - (more : Int))))
        have a2 : (wh : Rat) * p2 E * ((wh : Rat) * p2 E) = (wh : Rat) * (wh : Rat) * p2 (i - (more : Int)) := by rw [← p2E]; grind
        rw [Rat.mul_assoc (m : Rat), pim] at a1
        rw [a2]
        exact Rat.le_trans a1 hb
      have w2 : p2 E ≤ p2 45 := by
        refine sq_le_sq (Rat.le_of_lt (p2_pos 45)) ?_
        rw [← p90, p2E]
        have a1 : 1 * p2 i ≤ (m : Rat) * p2 i := Rat.mul_le_mul_of_nonneg_right m1 (Rat.le_of_lt (p2_pos i))
        have a3 : p2 (i - (more : Int)) ≤ p2 i := p2_mono (by omega)
        rw [Rat.one_mul] at a1
        exact Rat.le_trans a3 (Rat.le_trans a1 hb)
      have w3 : p2 E = p2 (E - 1) + p2 (E - 1) := p2_dbl (by omega)
      have w4 := Rat.mul_le_mul_of_nonneg_right hst (Rat.le_of_lt (p2_pos (E - 1)))
      have w5 : p2 45 + p2 45 ≤ p2 60 := by decide +kernel
      have w6 := p2_pos (E - 1)
      rw [w3] at w1 w2
      generalize p2 (E - 1) = x1 at *
      generalize p2 45 = x2 at *
      generalize p2 60 = x3 at *
      generalize ((2 * wh + (wh * wh != m <<< more).toNat : Nat) : Rat) = x4 at *
      generalize (wh : Rat) = x5 at *
      clear key hq hd hv hb hwl2 p2E pim p90 hst
      grind
    · simp only [if_true]
      show fit1 (nrm .f64 (qnan .f64))
      rw [nrm_qnan]
      unfold fit1
      decide +kernel
theorem nat_le_q {n m : Nat} {u : Rat} {q : Rat} (h : n ≤ m) (hu : 0 ≤ u) (hq : (m : Rat) * u ≤ q) : (n : Rat) * u ≤ q := by
  have h1 : (n : Rat) ≤ (m : Rat) := by exact_mod_cast h
  exact Rat.le_trans (Rat.mul_le_mul_of_nonneg_right h1 hu) hq
end Go.Proofs.Ytklonahkacikbaa

/- Polynomials of one, two and three drawn roots: their terms are exact. Conditions: roots in eighths, of small parts. -/
namespace Go.Proofs.Ytklonahkacikbaa
set_option linter.unusedSimpArgs false
set_option linter.unusedVariables false
open Go

/-- A complex number of two float32 worth (a + b i) / 2 ^ j. -/
def Gr (w : C2) (a b : Int) (j : Nat) : Prop := fC w ∧ cv w = ⟨(a : Rat) * p2 (-(j : Int)), (b : Rat) * p2 (-(j : Int))⟩
theorem A_dy (a : Int) (j : Nat) : A ((a : Rat) * p2 (-(j : Int))) = ((a.natAbs : Nat) : Rat) * p2 (-(j : Int)) := A_intm a (Rat.le_of_lt (p2_pos _))
theorem dy_lt {a : Int} {j : Nat} {n : Nat} (h : a.natAbs < 2 ^ n) : A ((a : Rat) * p2 (-(j : Int))) < p2 (n : Int) := by
  rw [A_dy, p2_nat]
  have h1 : p2 (-(j : Int)) ≤ 1 := p2_small (by omega)
  have h2 : ((a.natAbs : Nat) : Rat) < ((2 ^ n : Nat) : Rat) := by exact_mod_cast h
  have h3 : (0 : Rat) ≤ ((a.natAbs : Nat) : Rat) := by exact_mod_cast Nat.zero_le _
  have := Rat.mul_le_mul_of_nonneg_left h1 h3
  generalize p2 (-(j : Int)) = x at *
  grind
theorem exact32 {r : Nat} {q : Rat} {a : Int} {j : Nat} (h : Res .f32 r q) (hq : q = (a : Rat) * p2 (-(j : Int))) (ha : a.natAbs < 2 ^ 24) (hj : j ≤ 100) : vN .f32 r = q :=
  h.2.2 a.natAbs (-(j : Int)) (by rw [hq, A_dy]) ha (by have : lK .f32 = -149 := rfl; omega)
theorem exact64 {r : Nat} {q : Rat} {a : Int} {j : Nat} (h : Res .f64 r q) (hq : q = (a : Rat) * p2 (-(j : Int))) (ha : a.natAbs < 2 ^ 24) (hj : j ≤ 100) : vN .f64 r = q :=
  h.2.2 a.natAbs (-(j : Int)) (by rw [hq, A_dy]) (Nat.lt_trans ha (by decide)) (by have : lK .f64 = -1074 := rfl; omega)

theorem part_exact {P Q : Nat} {p q : Rat} {a : Int} {j : Nat} (hP : fN .f64 P = true) (hp : vN .f64 P = p) (hQ : fN .f64 Q = true) (hq : vN .f64 Q = q) (ha : a.natAbs < 2 ^ 24) (hj : j ≤ 100) :
    (p + q = (a : Rat) * p2 (-(j : Int)) → fit1 (fop .add .f64 P Q) ∧ fN .f32 (nw (fop .add .f64 P Q)) = true ∧ vN .f32 (nw (fop .add .f64 P Q)) = p + q) ∧
    (p - q = (a : Rat) * p2 (-(j : Int)) → fit1 (fop .sub .f64 P Q) ∧ fN .f32 (nw (fop .sub .f64 P Q)) = true ∧ vN .f32 (nw (fop .sub .f64 P Q)) = p - q) := by
  have hlt := dy_lt (j := j) ha
  have h24 : p2 ((24 : Nat) : Int) ≤ p2 1023 := p2_mono (by decide)
  have h25 : p2 ((24 : Nat) : Int) ≤ p2 127 := p2_mono (by decide)
  constructor
  · intro h
    have R1 := fop_add_res (k := .f64) hP hQ (by rw [hp, hq, h]; show _ < p2 1023; grind)
    rw [hp, hq] at R1
    have v1 := exact64 R1 h ha hj
    obtain ⟨f1, R2⟩ := nw_ok R1.1 (by rw [v1, h]; grind)
    rw [v1] at R2
    exact ⟨f1, R2.1, exact32 R2 h ha hj⟩
  · intro h
    have R1 := fop_sub_res (k := .f64) hP hQ (by rw [hp, hq, h]; show _ < p2 1023; grind)
    rw [hp, hq] at R1
    have v1 := exact64 R1 h ha hj
    obtain ⟨f1, R2⟩ := nw_ok R1.1 (by rw [v1, h]; grind)
    rw [v1] at R2
    exact ⟨f1, R2.1, exact32 R2 h ha hj⟩

theorem Gr.parts {w : C2} {a b : Int} {j : Nat} (h : Gr w a b j) : (fN .f32 w.1 = true ∧ vN .f32 w.1 = (a : Rat) * p2 (-(j : Int))) ∧ fN .f32 w.2 = true ∧ vN .f32 w.2 = (b : Rat) * p2 (-(j : Int)) :=
  ⟨⟨h.1.1, congrArg Q2.re h.2⟩, h.1.2, congrArg Q2.im h.2⟩
theorem Gr.mul {x y : C2} {a b c d : Int} {i j : Nat} (hx : Gr x a b i) (hy : Gr y c d j) (ha : a.natAbs < 2 ^ 11) (hb : b.natAbs < 2 ^ 11) (hc : c.natAbs < 2 ^ 11) (hd : d.natAbs < 2 ^ 11) (hij : i + j ≤ 100) :
    fit2 (timesF x y) ∧ Gr (mulC x y) (a * c - b * d) (a * d + b * c) (i + j) := by
  obtain ⟨⟨x1, x2⟩, x3, x4⟩ := hx.parts
  obtain ⟨⟨y1, y2⟩, y3, y4⟩ := hy.parts
  have b11 : p2 ((11 : Nat) : Int) ≤ p2 200 := p2_mono (by decide)
  have l1 := dy_lt (j := i) ha
  have l2 := dy_lt (j := i) hb
  have l3 := dy_lt (j := j) hc
  have l4 := dy_lt (j := j) hd
  rw [← x2] at l1
  rw [← x4] at l2
  rw [← y2] at l3
  rw [← y4] at l4
  obtain ⟨p1, p2'⟩ := prod_exact x1 y1 (by grind) (by grind)
  obtain ⟨q1, q2⟩ := prod_exact x3 y3 (by grind) (by grind)
  obtain ⟨r1, r2⟩ := prod_exact x1 y3 (by grind) (by grind)
  obtain ⟨s1, s2⟩ := prod_exact x3 y1 (by grind) (by grind)
  have hp : p2 (-((i + j : Nat) : Int)) = p2 (-(i : Int)) * p2 (-(j : Int)) := by rw [← p2_add]; congr 1; omega
  have bnd : ∀ {u v : Int}, u.natAbs < 2 ^ 11 → v.natAbs < 2 ^ 11 → (u * v).natAbs < 2 ^ 22 := by
    intro u v h1 h2
    rw [Int.natAbs_mul]
    exact Nat.lt_of_lt_of_le (Nat.mul_lt_mul_of_lt_of_lt h1 h2) (by decide)
  have n1 : (a * c - b * d).natAbs < 2 ^ 24 := by have := bnd ha hc; have := bnd hb hd; omega
  have n2 : (a * d + b * c).natAbs < 2 ^ 24 := by have := bnd ha hd; have := bnd hb hc; omega
  have e1' : vN .f32 x.1 * vN .f32 y.1 - vN .f32 x.2 * vN .f32 y.2 = ((a * c - b * d : Int) : Rat) * p2 (-((i + j : Nat) : Int)) := by
    rw [x2, x4, y2, y4, hp, Rat.intCast_sub, Rat.intCast_mul, Rat.intCast_mul]; grind
  have e2' : vN .f32 x.1 * vN .f32 y.2 + vN .f32 x.2 * vN .f32 y.1 = ((a * d + b * c : Int) : Rat) * p2 (-((i + j : Nat) : Int)) := by
    rw [x2, x4, y2, y4, hp, Rat.intCast_add, Rat.intCast_mul, Rat.intCast_mul]; grind
  obtain ⟨f1, g1, h1⟩ := (part_exact p1 p2' q1 q2 n1 hij).2 e1'
  obtain ⟨f2, g2, h2⟩ := (part_exact r1 r2 s1 s2 n2 hij).1 e2'
  exact ⟨⟨f1, f2⟩, ⟨g1, g2⟩, q2e (h1.trans e1') (h2.trans e2')⟩
theorem Gr.sub {x y : C2} {a b c d : Int} {j : Nat} (hx : Gr x a b j) (hy : Gr y c d j) (ha : (a - c).natAbs < 2 ^ 24) (hb : (b - d).natAbs < 2 ^ 24) (hj : j ≤ 100) : Gr (subC x y) (a - c) (b - d) j := by
  obtain ⟨⟨x1, x2⟩, x3, x4⟩ := hx.parts
  obtain ⟨⟨y1, y2⟩, y3, y4⟩ := hy.parts
  have h25 : p2 ((24 : Nat) : Int) ≤ p2 127 := p2_mono (by decide)
  have e1' : vN .f32 x.1 - vN .f32 y.1 = ((a - c : Int) : Rat) * p2 (-(j : Int)) := by rw [x2, y2, Rat.intCast_sub]; grind
  have e2' : vN .f32 x.2 - vN .f32 y.2 = ((b - d : Int) : Rat) * p2 (-(j : Int)) := by rw [x4, y4, Rat.intCast_sub]; grind
  have l1 := dy_lt (j := j) ha
  have l2 := dy_lt (j := j) hb
  have R1 := fop_sub_res (k := .f32) x1 y1 (by rw [e1']; show _ < p2 127; grind)
  have R2 := fop_sub_res (k := .f32) x3 y3 (by rw [e2']; show _ < p2 127; grind)
  exact ⟨⟨R1.1, R2.1⟩, q2e ((exact32 R1 e1' ha hj).trans e1') ((exact32 R2 e2' hb hj).trans e2')⟩
theorem Gr.lift {w : C2} {a b : Int} {j : Nat} (h : Gr w a b j) (k : Nat) : Gr w (a * 2 ^ k) (b * 2 ^ k) (j + k) := by
  refine ⟨h.1, ?_⟩
  rw [h.2]
  have hp : p2 (-(j : Int)) = ((2 ^ k : Nat) : Rat) * p2 (-((j + k : Nat) : Int)) := by rw [← p2_nat, ← p2_add]; congr 1; omega
  have hk : (((2 : Int) ^ k : Int) : Rat) = ((2 ^ k : Nat) : Rat) := by rw [← Rat.intCast_natCast]; congr 1
  rw [hp]
  exact q2e (by show (a : Rat) * _ = ((a * 2 ^ k : Int) : Rat) * _; rw [Rat.intCast_mul, hk]; grind) (by show (b : Rat) * _ = ((b * 2 ^ k : Int) : Rat) * _; rw [Rat.intCast_mul, hk]; grind)
theorem Gr.zero (j : Nat) : Gr (0, 0) 0 0 j := by
  have h0 : FloatKind.f32.decode 0 = .number false 0 (-149) := by decide +kernel
  have h2 : vN .f32 0 = 0 := by unfold vN; rw [h0]; decide +kernel
  refine ⟨fC0.1, q2e ?_ ?_⟩
  · show vN .f32 0 = ((0 : Int) : Rat) * _; rw [h2, show ((0 : Int) : Rat) = 0 from rfl]; try grind
  · show vN .f32 0 = ((0 : Int) : Rat) * _; rw [h2, show ((0 : Int) : Rat) = 0 from rfl]; try grind
theorem Gr.one : Gr (nc (1065353216, 0)) 1 0 0 := by
  have h1 : nc (1065353216, 0) = (1065353216, 0) := by decide +kernel
  have hd : FloatKind.f32.decode 1065353216 = .number false 8388608 (-23) := by decide +kernel
  rw [h1]
  refine ⟨⟨by unfold fN; rw [hd]; rfl, fC0.1.2⟩, q2e ?_ ?_⟩
  · show vN .f32 1065353216 = _; unfold vN; rw [hd]; decide +kernel
  · have := congrArg Q2.im (Gr.zero 0).2
    exact this
theorem Gr.cast {w : C2} {a b c d : Int} {j : Nat} (h : Gr w a b j) (h1 : a = c) (h2 : b = d) : Gr w c d j := by subst h1 h2; exact h
theorem Gr.zero_to {w : C2} {j : Nat} (h : Gr w 0 0 j) (i : Nat) : Gr w 0 0 i := by
  refine ⟨h.1, h.2.trans (q2e ?_ ?_)⟩ <;> (show ((0 : Int) : Rat) * _ = ((0 : Int) : Rat) * _; rw [show ((0 : Int) : Rat) = 0 from rfl]; try grind)
end Go.Proofs.Ytklonahkacikbaa

/- Numbers of few bits, drawn roots. Conditions: as told. -/
namespace Go.Proofs.Ytklonahkacikbaa
open Go
set_option linter.unusedSimpArgs false
set_option linter.unusedVariables false

theorem nS_pure {sx sy : Int} {N1 : Nat} (f : Rat) (hf : 0 ≤ f) (h : (N1 : Int) = sx.natAbs + sy.natAbs) : N (⟨(sx : Rat) * f, (sy : Rat) * f⟩ : Q2) = (N1 : Rat) * f := by
  show A ((sx : Rat) * f) + A ((sy : Rat) * f) = _
  rw [A_intm _ hf, A_intm _ hf]
  have : (N1 : Rat) = ((sx.natAbs : Nat) : Rat) + ((sy.natAbs : Nat) : Rat) := by rw [← Rat.natCast_add]; congr 1; omega
  rw [this]; grind
theorem gr_norm {w : C2} {a b : Int} {j n : Nat} (h : Gr w a b j) (hn : (n : Int) = a.natAbs + b.natAbs) : N (cv w) = (n : Rat) * p2 (-(j : Int)) := by
  rw [h.2]
  exact nS_pure _ (Rat.le_of_lt (p2_pos _)) hn
theorem gr_le {w : C2} {a b : Int} {j : Nat} {q : Rat} (h : Gr w a b j) (n : Nat) (hn : a.natAbs + b.natAbs ≤ n) (hq : (n : Rat) * p2 (-(j : Int)) ≤ q) : N (cv w) ≤ q := by
  rw [gr_norm (n := a.natAbs + b.natAbs) h (by omega)]
  exact nat_le_q hn (Rat.le_of_lt (p2_pos _)) hq
theorem gr_one {w : C2} (h : Gr w 1 0 0) : cv w = one2 := h.2.trans (q2e (by decide +kernel) (by decide +kernel))
theorem poly_full {F : List C2} {w : C2} (hl : 1 < F.length) (hf : F.all finC = true) (hw : F.getD (F.length - 1) (0, 0) = w) (h1 : Gr w 1 0 0) : polyF F = (F, true) ∧ rootedF F = true := by
  have hz : zeroC (F.getD (F.length - 1) (0, 0)) = false := by rw [hw]; exact not_zeroC h1.1 (by rw [gr_one h1]; decide)
  obtain ⟨a, b⟩ := poly_of hl hf hz
  refine ⟨b, ?_⟩
  unfold rootedF
  rw [a]; simp; omega
theorem finG {w : C2} {a b : Int} {j : Nat} (h : Gr w a b j) : finC w = true := (fC_iff w).1 h.1
/-- Distances fit. -/
theorem dist_fit {a x : C2} (ha : fC a) (hx : fC x) (na : N (cv a) ≤ p2 41) (nx : N (cv x) ≤ p2 41) : fit1 (sqF (powerF (subC a x))) := by
  have h1 := N_sub (cv a) (cv x)
  have h2 : p2 41 + p2 41 = p2 42 := p2_two 41
  have h3 : N (cv a - cv x) ≤ p2 42 := by grind
  have hn := subC_near ha hx (lt_of_p2 h3 (by decide))
  have g := hn.2
  have t1 := N_tri (cv (subC a x)) (cv a - cv x)
  have u14 : u1 ≤ 1 := by decide +kernel
  have e14 : e1 ≤ 1 := by decide +kernel
  have u5 := Rat.mul_le_mul_of_nonneg_right u14 (N_nonneg (cv a - cv x))
  have h4 : p2 42 + (p2 42 + 1) ≤ p2 44 := by decide +kernel
  have h5 : N (cv (subC a x)) ≤ p2 44 := by
    generalize u1 = u at *
    generalize e1 = e at *
    generalize p2 42 = c at *
    generalize p2 44 = d at *
    clear h1 h2 na nx hn
    grind
  obtain ⟨w1, w2⟩ := powerF_ok hn.1 (lt_of_p2 h5 (by decide))
  refine sqF_fit w1 ?_
  have k1 := sqN_le (cv (subC a x))
  have k2 := mul_le h5 h5 (N_nonneg _) (Rat.le_of_lt (p2_pos 44))
  rw [← p2_add] at k2
  have k3 := sqN_nonneg (cv (subC a x))
  rw [A_of_nonneg k3] at w2
  have t2 := A_add (vN .f64 (powerF (subC a x)) - sqN (cv (subC a x))) (sqN (cv (subC a x)))
  rw [show vN .f64 (powerF (subC a x)) - sqN (cv (subC a x)) + sqN (cv (subC a x)) = vN .f64 (powerF (subC a x)) by grind, A_of_nonneg k3] at t2
  have m1 : p2 (-53) ≤ 1 := p2_small (by decide)
  have m2 : p2 (-1075) ≤ 1 := p2_small (by decide)
  have m3 := Rat.mul_le_mul_of_nonneg_right m1 k3
  have m4 : p2 (44 + 44) + (p2 (44 + 44) + 1) ≤ p2 90 := by decide +kernel
  generalize p2 (44 + 44) = c at *
  generalize p2 90 = d at *
  generalize p2 (-53) = f at *
  generalize p2 (-1075) = g at *
  clear h1 h2 h3 h4 h5 hn t1 u5 na nx
  grind
/-- Root k, as it is drawn. -/
def DR (w : C2) (k : Nat) : Prop := ∃ x y : Int, Gr w x y 3 ∧ 8 * (k : Int) - 12 ≤ x ∧ x ≤ 8 * (k : Int) - 8 ∧ -8 ≤ y ∧ y ≤ 8
theorem DR.small {w : C2} {k : Nat} (h : DR w k) (hk : k < 6) : fC w ∧ N (cv w) ≤ p2 41 := by
  obtain ⟨x, y, g, a, b, c, d⟩ := h
  exact ⟨g.1, gr_le g 48 (by omega) (by decide +kernel)⟩
end Go.Proofs.Ytklonahkacikbaa

/- The roots that are drawn. Conditions: bytes; at most 6 roots. -/
namespace Go.Proofs.Ytklonahkacikbaa
set_option linter.unusedSimpArgs false
set_option linter.unusedVariables false
open Go Go.RowKit

theorem Only.grown {g : Nat} {w w' : World} (h : Only g (g + 1) w w') : w.grownBy w' (some g) := ⟨h.os, h.tape, h.output, h.size, fun k hk hne => h.block k hk (by
  have : k ≠ g := fun e => hne (by rw [e])
  omega)⟩

def reW (k a : Nat) : Nat := fop .sub .f32 (fop .add .f32 (nrm .f32 (floatOfInt .f32 (k : Int))) (fop .quo .f32 (nrm .f32 (floatOfInt .f32 (a : Int))) (nrm .f32 1090519040))) (nrm .f32 1069547520)
def imW (b : Nat) : Nat := fop .quo .f32 (nrm .f32 (floatOfInt .f32 ((b : Int) - 8))) (nrm .f32 1090519040)
theorem reW_ok : ∀ k, k < 6 → ∀ a, a < 5 → fN .f32 (reW k a) = true ∧ vN .f32 (reW k a) = ((8 * (k : Int) - 12 + (a : Int) : Int) : Rat) * p2 (-3) := by decide +kernel
theorem imW_ok : ∀ b, b < 17 → fN .f32 (imW b) = true ∧ vN .f32 (imW b) = (((b : Int) - 8 : Int) : Rat) * p2 (-3) := by decide +kernel
theorem drawn_DR {k a b x y : Nat} (hk : k < 6) (ha : a < 5) (hb : b < 17) (hx : nrm .f32 x = reW k a) (hy : nrm .f32 y = imW b) : DR (nc (x, y)) k := by
  obtain ⟨x1, x2⟩ := reW_ok k hk a ha
  obtain ⟨y1, y2⟩ := imW_ok b hb
  refine ⟨8 * (k : Int) - 12 + (a : Int), (b : Int) - 8, ⟨⟨?_, ?_⟩, ?_⟩, by omega, by omega, by omega, by omega⟩
  · show fN .f32 (nrm .f32 x) = true; rw [hx]; exact x1
  · show fN .f32 (nrm .f32 y) = true; rw [hy]; exact y1
  · exact q2e (show vN .f32 (nrm .f32 x) = ((8 * (k : Int) - 12 + (a : Int) : Int) : Rat) * p2 (-3) by rw [hx, x2]) (show vN .f32 (nrm .f32 y) = (((b : Int) - 8 : Int) : Rat) * p2 (-3) by rw [hy, y2])

set_option maxRecDepth 100000 in
set_option maxHeartbeats 4000000 in
theorem b10Roots_spec (v : Value) (zs : List Int) (n : Nat) (w : World) (hv : RdB w v zs) (hl : zs.length ≤ 1048576) (hn : n ≤ 6) :
    Calls Try.prog 6 #[v, .int .i64 n] w fun e w' => ∃ v' ls, e = .returned v' ∧ ls.length = n ∧ (∀ k, k < n → DR (nc (ls.getD k (0, 0))) k) ∧ OwV 31 w' w.heap.size v' (cx ls) ∧ Below w.heap.size w w' := by
  have Hv := Lib.hid hv
  have HB := Lib.hid (fun hn => hv.blk hn)
  obtain ⟨ao, cap, rfl⟩ := hv.shape
  clear hv
  go_enter Try.func6, Try.ntmps6
  go_wp2_with fail
  refine (from_spec _ zs _ Hv.out hl).mono ?_
  rintro e w1 ⟨rfl, hs1, hb1⟩
  have hg1 : w.heap.size < w1.heap.size := World.block_lt_of_cell? _ _ hs1.1
  generalize hG : w.heap.size = G at *
  have Hs1 := Lib.hid hs1
  have Hb1 := Lib.hid hb1
  clear hs1 hb1 Hv
  go_wp2_with fail
  go_loopw [6, 7] (fun ov kv wr => ∃ (k kk : Nat) (ls : List C2), k ≤ n ∧ kv = .int .i64 k ∧ kk ≤ 4 * k ∧ RowV 31 wr w1.heap.size ov (cx ls) ∧ ls.length = k ∧ (∀ i, i < k → DR (nc (ls.getD i (0, 0))) i) ∧ SrcI wr G (.slice ao zs.length cap) zs kk ∧ Below G w wr ∧ w1.heap.size ≤ wr.heap.size) (fun _ kv _ => n - (intOf kv).toNat)
  case atStart =>
    refine ⟨0, 0, [], Nat.zero_le _, rfl, Nat.le_refl _, row_nil (Nat.le_refl _) _, rfl, fun i hi => absurd hi (by omega), ?_, Hb1.out.alloc (by omega) _, by simp⟩
    exact Hs1.out.below ((Below.refl _ _).alloc (Nat.le_refl _) _)
  case round =>
    obtain ⟨k, kk, ls, hk, rfl, hkk, hrow, hls, hD, hs, hb, hW1⟩ := hrel
    by_cases hlt : k < n
    · have Hs := Lib.hid hs
      have Hrow := Lib.hid hrow
      have Hb := Lib.hid hb
      have HD := Lib.hid hD
      have HLS := Lib.hid hls
      clear hs hrow hb hD hls Hs1 Hb1
      have j1 : (k : Int) < (n : Int) := by omega
      go_wp2_with fail
      (go_at_call 18; ((with_reducible refine (pick_spec G _ zs kk 5 _ Hs.out (by omega) (by omega) (by omega)).mono ?_); rintro e w2 ⟨z, k2, rfl, hz0, hz1, hk1, hk2, hs2, ho2⟩))
      obtain ⟨a, rfl⟩ := Int.eq_ofNat_of_zero_le hz0
      have Hs2 := Lib.hid hs2
      have Hrow2 := Lib.hid (show RowV 31 w2 w1.heap.size _ _ from World.ownsRow.kept Hrow.out ho2.grown (by
        cases hq : Value.ownBlock _ with
        | none => exact .inl rfl
        | some q => right; intro e; cases e; have := (RowV.lt Hrow.out) _ hq; omega))
      have Hb2 := Lib.hid (Hb.out.trans (ho2.toBelow (Nat.le_refl _) (by have := Hb.out.size; omega)))
      have ha5 : a < 5 := by omega
      have HW2 := Lib.hid (show w1.heap.size ≤ w2.heap.size from Nat.le_trans hW1 ho2.size)
      clear hs2 ho2 hz0 hz1
      go_wp2_with (with_reducible refine wpList_fop rfl _ _ _ _ _ rfl rfl .f32 _ _ rfl rfl ?_; intro r m hr; (first | (have _t := HQ1; first | (have _t2 := HQ2; have HQ3 := Lib.hid hr) | have HQ2 := Lib.hid hr) | have HQ1 := Lib.hid hr))
      have HRE := Lib.hid (show nrm .f32 r = reW k a by rw [HQ3.out, HQ2.out, HQ1.out]; rfl)
      clear HQ1 HQ2 HQ3 hr
      have Hs3 := Lib.hid (fun mm => Hs2.out.below (drewN_below w2 mm))
      have Hrow3 := Lib.hid (fun mm => Hrow2.out.below (drewN_below w2 mm))
      have Hb3 := Lib.hid (fun mm => below_drewN Hb2.out mm)
      clear Hs2 Hrow2
      have hG2 : G ≤ w2.heap.size := by have := Hb2.out.size; omega
      have hW2 : w1.heap.size ≤ w2.heap.size := HW2.out
      (go_at_call 18; ((with_reducible refine (pick_spec G _ zs k2 17 _ (Hs3.out _) (by omega) (by omega) (by omega)).mono ?_); rintro e w3 ⟨z, k3, rfl, hz0, hz1, hk3, hk4, hs3, ho3⟩))
      obtain ⟨b, rfl⟩ := Int.eq_ofNat_of_zero_le hz0
      have Hs4 := Lib.hid hs3
      have Hrow4 := Lib.hid (show RowV 31 w3 w1.heap.size _ _ from World.ownsRow.kept (Hrow3.out _) ho3.grown (by
        cases hq : Value.ownBlock _ with
        | none => exact .inl rfl
        | some q => right; intro e; cases e; have := (RowV.lt (Hrow3.out 0)) _ hq; omega))
      have Hb4 := Lib.hid ((Hb3.out _).trans (ho3.toBelow (Nat.le_refl _) (by simpa using hG2)))
      have hb17 : b < 17 := by omega
      have q8 : IntKind.i64.wrap ((b : Int) - 8) = (b : Int) - 8 := IntWalk.i64_in _ ⟨by omega, by omega⟩
      have hsz3 : w1.heap.size ≤ w3.heap.size ∧ G ≤ w3.heap.size := by
        have h2 := ho3.size
        simp at h2
        omega
      clear hs3 ho3 hz0 hz1 Hs3 Hrow3 Hb3 Hs Hrow Hb Hb2
      have Hl := Lib.hid (show (cx ls).length ≤ 1099511627776 by rw [cx_length, HLS.out]; omega)
      go_wp2_with (first | (with_reducible refine wpList_fop rfl _ _ _ _ _ rfl rfl .f32 _ _ rfl rfl ?_; intro ri m hri; have HIM := Lib.hid hri; clear hri) |
        (at_builtin; go_must (refine wpList_pushV (.complex .f32 0 0) 8 Hrow4.out infoC rfl rfl (by decide) rfl _ _ rfl Try.underlying25 Hl.out hsz3.1 rfl rfl rfl rfl rfl rfl ?_); intro v1 w4 hr1 hb5 hg5 ho5))
      have HN := Lib.hid (show DR (nc (r, ri)) k from drawn_DR (by omega) ha5 hb17 HRE.out HIM.out)
      have Hs5 := Lib.hid (SrcI.belowB Hs4.out hb5 (by omega) (fun p n c hz h => by have := HB.out hz p n c h; omega))
      go_roundw
      case rel =>
        refine ⟨k + 1, k3, ls ++ [(r, ri)], by omega, by go_num, by omega, by rw [← cx_push]; exact hr1, by rw [List.length_append, HLS.out]; rfl, ?_, Hs5.out, Hb4.out.trans (hb5.mono (by omega)), Nat.le_trans hsz3.1 hb5.size⟩
        intro i hi
        have hL := HLS.out
        by_cases hik : i < k
        · have : (ls ++ [(r, ri)]).getD i (0, 0) = ls.getD i (0, 0) := by simp only [List.getD]; rw [List.getElem?_append_left (by omega)]
          rw [this]; exact HD.out i hik
        · obtain rfl : i = k := by omega
          have : (ls ++ [(r, ri)]).getD i (0, 0) = (r, ri) := by simp only [List.getD]; rw [List.getElem?_append_right (by omega), hL]; simp
          rw [this]; exact HN.out
      case measure => simp [intOf]; omega
    · obtain rfl : k = n := by omega
      have Hr := Lib.hid (hrow.own.mono (show G ≤ w1.heap.size by omega))
      have Hb := Lib.hid hb
      clear hrow hb hs
      go_wp2_with fail
      refine bodyPost_ret (by simp [results, Try.results6, go_sem]; try rfl) rfl ?_
      exact ⟨_, ls, rfl, hls, hD, by rw [hG]; exact Hr.out, by rw [hG]; exact Hb.out⟩

end Go.Proofs.Ytklonahkacikbaa

/- Plain facts of the drawn roots: finite, their real parts rise, distances fit, none is below 0, that of a number to itself is 0. Conditions: roots as they are drawn. -/
namespace Go.Proofs.Ytklonahkacikbaa
set_option linter.unusedSimpArgs false
set_option linter.unusedVariables false
open Go

theorem write_num {k : FloatKind} {s : Bool} {m : Nat} {e : Int} (ht : (m : Rat) * p2 e < tK k) : ∃ M P, k.decode (k.encode (.number s m e)) = .number s M P := by
  obtain ⟨hsw, h4, hfb, hlp⟩ := format_facts k
  by_cases hm : m = 0
  · subst hm
    have hw : k.encode (.number s 0 e) = k.format.word s 0 := by show k.format.nearest s 0 e = _; unfold Ieee.Format.nearest; simp
    have hb0 : 0 < k.format.binade := Nat.two_pow_pos _
    have hir : 0 < k.format.infRung := by cases k <;> decide +kernel
    refine ⟨0, k.format.leastPlace, ?_⟩
    show k.format.read _ = _
    rw [hw, read_word_num k.format s hir hsw, if_pos hb0]
  · have hlog : (2 : Nat) ^ m.log2 ≤ m := Nat.log2_self_le hm
    have hlq : p2 ((m.log2 : Int) + e) ≤ (m : Rat) * p2 e := by
      rw [p2_add, p2_nat]
      exact Rat.mul_le_mul_of_nonneg_right (by exact_mod_cast hlog) (Rat.le_of_lt (p2_pos e))
    have hR := nearest_rounds k.format hsw h4 s m e hm (by
      rw [hfb, hlp]
      have h1 : (m.log2 : Int) + e < (match k with | .f32 => 127 | .f64 => 1023) := by
        cases k
        · exact p2_lt (b := 127) (by have ht' : (m : Rat) * p2 e < p2 127 := ht; generalize p2 127 = t at *; grind)
        · exact p2_lt (b := 1023) (by have ht' : (m : Rat) * p2 e < p2 1023 := ht; generalize p2 1023 = t at *; grind)
      cases k
      · have : ((2 ^ FloatKind.f32.format.exponentBits : Nat) : Int) = 256 := by decide
        rw [this]; simp only [bK, lK] at *; omega
      · have : ((2 ^ FloatKind.f64.format.exponentBits : Nat) : Int) = 2048 := by decide
        rw [this]; simp only [bK, lK] at *; omega)
    obtain ⟨M, P, c, last, hread, _⟩ := hR.ex
    exact ⟨M, P, hread⟩
/-- A number that is not below 0. -/
def Pos (k : FloatKind) (x : Nat) : Prop := ∃ M P, k.decode x = .number false M P
theorem Pos.fN {k : FloatKind} {x : Nat} (h : Pos k x) : fN k x = true := by obtain ⟨M, P, h⟩ := h; unfold Go.Proofs.Ytklonahkacikbaa.fN; rw [h]; rfl
theorem Pos.nonneg {k : FloatKind} {x : Nat} (h : Pos k x) : 0 ≤ vN k x := by
  obtain ⟨M, P, h⟩ := h
  unfold vN
  rw [h]
  show 0 ≤ sg false _
  exact Rat.mul_nonneg (by exact_mod_cast Nat.zero_le M) (Rat.le_of_lt (p2_pos P))
theorem pos_write {k : FloatKind} {m : Nat} {e : Int} (ht : (m : Rat) * p2 e < tK k) : Pos k (nrm k (k.encode (.number false m e))) := by
  obtain ⟨M, P, h⟩ := write_num (s := false) ht
  have hn : Go.Proofs.Ytklonahkacikbaa.fN k (k.encode (.number false m e)) = true := by unfold Go.Proofs.Ytklonahkacikbaa.fN; rw [h]; rfl
  rw [fN_nrm hn]
  exact ⟨M, P, h⟩
theorem mul_pos {x : Nat} (h : fN .f64 x = true) (ht : A (vN .f64 x * vN .f64 x) < p2 1023) : Pos .f64 (fop .mul .f64 x x) := by
  obtain ⟨s, m, i, hd⟩ := isNum_ex h
  have hf : fop .mul .f64 x x = nrm .f64 (FloatKind.f64.encode (.number (s ^^ s) (m * m) (i + i))) := by
    unfold fop floatBits Ieee.Format.mul
    dsimp only
    rw [show FloatKind.f64.format.read x = .number s m i from hd]
    rfl
  have hs : (s ^^ s) = false := by cases s <;> rfl
  rw [hf, hs]
  refine pos_write ?_
  have h1 : A (vN .f64 x) = (m : Rat) * p2 i := by unfold vN; rw [hd, A_val]
  rw [A_mul, h1] at ht
  show _ < p2 1023
  rw [p2_add, Rat.natCast_mul]
  generalize p2 1023 = t at *
  grind
theorem add_pos {x y : Nat} (hx : Pos .f64 x) (hy : Pos .f64 y) (ht : A (vN .f64 x + vN .f64 y) < p2 1023) : Pos .f64 (fop .add .f64 x y) := by
  obtain ⟨m, i, hx⟩ := hx
  obtain ⟨n, j, hy⟩ := hy
  have hf : fop .add .f64 x y = nrm .f64 (FloatKind.f64.encode (.number (if (Ieee.signed false m (i - min i j).toNat + Ieee.signed false n (j - min i j).toNat) = 0 then false && false else Ieee.signed false m (i - min i j).toNat + Ieee.signed false n (j - min i j).toNat < 0)
      (Ieee.signed false m (i - min i j).toNat + Ieee.signed false n (j - min i j).toNat).natAbs (min i j))) := by
    unfold fop floatBits Ieee.Format.add
    dsimp only
    rw [show FloatKind.f64.format.read x = .number false m i from hx, show FloatKind.f64.format.read y = .number false n j from hy]
    rfl
  have h0 : 0 ≤ Ieee.signed false m (i - min i j).toNat + Ieee.signed false n (j - min i j).toNat := Int.add_nonneg (by unfold Ieee.signed; exact Int.natCast_nonneg _) (by unfold Ieee.signed; exact Int.natCast_nonneg _)
  have hv : vN .f64 x + vN .f64 y = ((Ieee.signed false m (i - min i j).toNat + Ieee.signed false n (j - min i j).toNat : Int) : Rat) * p2 (min i j) := by
    unfold vN
    rw [hx, hy, Rat.intCast_add, ← signed_val false m i (min i j) (by omega), ← signed_val false n j (min i j) (by omega)]
    grind
  generalize Ieee.signed false m (i - min i j).toNat + Ieee.signed false n (j - min i j).toNat = tot at *
  have hb : (if tot = 0 then false && false else decide (tot < 0)) = false := by
    split
    · rfl
    · simp; omega
  rw [hf, hb]
  refine pos_write ?_
  rw [hv, A_intm _ (Rat.le_of_lt (p2_pos _))] at ht
  exact ht
/-- The root of a number that is not below 0. -/
theorem root_false {m : Nat} {i : Int} (hb : (m : Rat) * p2 i ≤ p2 90) : ∃ M P, Ieee.Datum.root 54 (.number false m i) = some (.number false M P) ∧ (M : Rat) * p2 P ≤ p2 60 := by
  unfold Ieee.Datum.root
  dsimp only
  by_cases hm : m = 0
  · rw [if_pos hm]
    refine ⟨m, i, rfl, ?_⟩
    rw [hm, show ((0 : Nat) : Rat) = 0 from rfl]
    have := p2_pos 60
    generalize p2 60 = t at *
    grind
  · rw [if_neg hm]
    simp only [Bool.false_eq_true, if_false]
    generalize hmore : 2 * 54 - m.log2 + ((i - ((2 * 54 - m.log2 : Nat) : Int)) % 2).toNat = more
    obtain ⟨E, hE⟩ : ∃ E : Int, i - (more : Int) = 2 * E := ⟨(i - (more : Int)) / 2, by omega⟩
    have hE2 : (i - (more : Int)) / 2 - 1 = E - 1 := by omega
    have hwl := rootFrom_le (m <<< more) ((m <<< more).log2 / 2 + 1) 0 (by simp)
    generalize Ieee.Datum.rootFrom (m <<< more) ((m <<< more).log2 / 2 + 1) 0 = wh at *
    rw [hE2]
    refine ⟨_, _, rfl, ?_⟩
    have hst : ((2 * wh + (wh * wh != m <<< more).toNat : Nat) : Rat) ≤ 2 * (wh : Rat) + 1 := by
      have : 2 * wh + (wh * wh != m <<< more).toNat ≤ 2 * wh + 1 := by
        have := Bool.toNat_le (wh * wh != m <<< more); omega
      have h2 : ((2 * wh + (wh * wh != m <<< more).toNat : Nat) : Rat) ≤ ((2 * wh + 1 : Nat) : Rat) := by exact_mod_cast this
      rw [Rat.natCast_add (2 * wh) 1, Rat.natCast_mul] at h2
      exact h2
    rw [Nat.shiftLeft_eq] at hwl
    have hwl2 : ((wh : Nat) : Rat) * (wh : Rat) ≤ (m : Rat) * p2 (more : Int) := by
      rw [p2_nat, ← Rat.natCast_mul, ← Rat.natCast_mul]; exact_mod_cast hwl
    have m1 : (1 : Rat) ≤ (m : Rat) := by exact_mod_cast Nat.pos_of_ne_zero hm
    have pE := p2_pos E
    have p2E : p2 E * p2 E = p2 (i - (more : Int)) := by rw [← p2_add]; congr 1; omega
    have pim : p2 (more : Int) * p2 (i - (more : Int)) = p2 i := by rw [← p2_add]; congr 1; omega
    have p90 : p2 90 = p2 45 * p2 45 := by rw [← p2_add]; rfl
    have w1 : (wh : Rat) * p2 E ≤ p2 45 := by
      refine sq_le_sq (Rat.le_of_lt (p2_pos 45)) ?_
      rw [← p90]
      have a1 := Rat.mul_le_mul_of_nonneg_right hwl2 (Rat.le_of_lt (p2_pos (i - (more : Int))))
      have a2 : (wh : Rat) * p2 E * ((wh : Rat) * p2 E) = (wh : Rat) * (wh : Rat) * p2 (i - (more : Int)) := by rw [← p2E]; grind
      rw [Rat.mul_assoc (m : Rat), pim] at a1
      rw [a2]
      exact Rat.le_trans a1 hb
    have w2 : p2 E ≤ p2 45 := by
      refine sq_le_sq (Rat.le_of_lt (p2_pos 45)) ?_
      rw [← p90, p2E]
      have a1 : 1 * p2 i ≤ (m : Rat) * p2 i := Rat.mul_le_mul_of_nonneg_right m1 (Rat.le_of_lt (p2_pos i))
      have a3 : p2 (i - (more : Int)) ≤ p2 i := p2_mono (by omega)
      rw [Rat.one_mul] at a1
      exact Rat.le_trans a3 (Rat.le_trans a1 hb)
    have w3 : p2 E = p2 (E - 1) + p2 (E - 1) := p2_dbl (by omega)
    have w4 := Rat.mul_le_mul_of_nonneg_right hst (Rat.le_of_lt (p2_pos (E - 1)))
    have w5 : p2 45 + p2 45 ≤ p2 60 := by decide +kernel
    have w6 := p2_pos (E - 1)
    rw [w3] at w1 w2
    generalize p2 (E - 1) = x1 at *
    generalize p2 45 = x2 at *
    generalize p2 60 = x3 at *
    generalize ((2 * wh + (wh * wh != m <<< more).toNat : Nat) : Rat) = x4 at *
    generalize (wh : Rat) = x5 at *
    clear hb hwl2 p2E pim p90 hst
    grind
theorem sqF_pos {y : Nat} (h : Pos .f64 y) (hb : vN .f64 y ≤ p2 90) : Pos .f64 (sqF y) ∧ Pos .f32 (nw (sqF y)) := by
  obtain ⟨m, i, hd⟩ := h
  have hv : vN .f64 y = (m : Rat) * p2 i := by unfold vN; rw [hd]; rfl
  rw [hv] at hb
  obtain ⟨M, P, hr, hM⟩ := root_false hb
  have hq : sqF y = nrm .f64 (FloatKind.f64.encode (.number false M P)) := by
    unfold sqF Ieee.Format.sqrt
    rw [show FloatKind.f64.format.read y = .number false m i from hd, show Ieee.Datum.root (FloatKind.f64.format.fractionBits + 2) (.number false m i) = some (.number false M P) from hr]
    rfl
  have h60 : p2 60 < p2 1023 := lt_of_p2 (Rat.le_refl (a := p2 60)) (by decide)
  have hp := pos_write (k := .f64) (m := M) (e := P) (show _ < p2 1023 by generalize p2 1023 = t at *; generalize p2 60 = u at *; grind)
  rw [← hq] at hp
  refine ⟨hp, ?_⟩
  obtain ⟨M2, P2, hd2⟩ := hp
  have hR := write_ok .f64 (.number false M P) rfl (by rw [A_val]; show _ < p2 1023; generalize p2 1023 = t at *; generalize p2 60 = u at *; grind)
  have hn : nrm .f64 (FloatKind.f64.encode (.number false M P)) = FloatKind.f64.encode (.number false M P) := fN_nrm hR.1
  have hval : vN .f64 (sqF y) = (M2 : Rat) * p2 P2 := by unfold vN; rw [hd2]; rfl
  have hsm : (M2 : Rat) * p2 P2 < p2 127 := by
    have a1 := hR.2.1
    rw [← hn, ← hq, hval, A_val] at a1
    have a2 := le_A ((M2 : Rat) * p2 P2 - valD (.number false M P))
    have a3 : valD (.number false M P) = (M : Rat) * p2 P := rfl
    rw [a3] at a1 a2
    have u0 : uK .f64 ≤ 1 := by decide +kernel
    have u2 : eK .f64 ≤ 1 := by decide +kernel
    have u3 := Rat.mul_le_mul_of_nonneg_right u0 (Rat.mul_nonneg (show (0 : Rat) ≤ (M : Rat) by exact_mod_cast Nat.zero_le M) (Rat.le_of_lt (p2_pos P)))
    have u4 : 2 * p2 60 + 1 < p2 127 := by decide +kernel
    generalize uK .f64 = a at *
    generalize eK .f64 = b at *
    generalize p2 60 = c at *
    generalize p2 127 = g at *
    clear h60 hR hn hval hq hd2 hr hv hb hd
    grind
  have hw : floatToFloatBits .f64 (sqF y) .f32 = some (FloatKind.f32.encode (.number false M2 P2)) := by
    unfold floatToFloatBits
    rw [if_neg (by decide), hd2]
    dsimp only
    obtain ⟨M3, P3, h3⟩ := write_num (k := .f32) (s := false) (m := M2) (e := P2) hsm
    rw [h3]; rfl
  rw [show nw (sqF y) = nrm .f32 (FloatKind.f32.encode (.number false M2 P2)) by unfold nw fcvt; rw [hw]; rfl]
  exact pos_write hsm
theorem longF_pos {d : C2} (hd : fC d) (hn : N (cv d) ≤ p2 44) : Pos .f32 (longF d) := by
  have a1 : A (vN .f32 d.1) ≤ N (cv d) := re_le_N (cv d)
  have a2 : A (vN .f32 d.2) ≤ N (cv d) := im_le_N (cv d)
  have m1 : p2 44 < p2 200 := lt_of_p2 (Rat.le_refl (a := p2 44)) (by decide)
  have m2 : p2 44 < p2 1023 := lt_of_p2 (Rat.le_refl (a := p2 44)) (by decide)
  obtain ⟨p1, q1⟩ := wd_ok hd.1 (by grind)
  obtain ⟨p2', q2⟩ := wd_ok hd.2 (by grind)
  have k1 : A (vN .f32 d.1 * vN .f32 d.1) ≤ p2 88 := by
    rw [A_mul]
    have := mul_le (Rat.le_trans a1 hn) (Rat.le_trans a1 hn) (A_nonneg _) (Rat.le_of_lt (p2_pos 44))
    rw [← p2_add] at this; exact this
  have k2 : A (vN .f32 d.2 * vN .f32 d.2) ≤ p2 88 := by
    rw [A_mul]
    have := mul_le (Rat.le_trans a2 hn) (Rat.le_trans a2 hn) (A_nonneg _) (Rat.le_of_lt (p2_pos 44))
    rw [← p2_add] at this; exact this
  have m3 : p2 88 < p2 1023 := lt_of_p2 (Rat.le_refl (a := p2 88)) (by decide)
  have P1 := mul_pos p1 (by rw [q1]; grind)
  have P2 := mul_pos p2' (by rw [q2]; grind)
  obtain ⟨_, e1'⟩ := prod_exact hd.1 hd.1 (by grind) (by grind)
  obtain ⟨_, e2'⟩ := prod_exact hd.2 hd.2 (by grind) (by grind)
  have m4 : p2 88 + p2 88 = p2 89 := p2_two 88
  have m5 : p2 89 < p2 1023 := lt_of_p2 (Rat.le_refl (a := p2 89)) (by decide)
  have P3 := add_pos P1 P2 (by rw [e1', e2']; have := A_add (vN .f32 d.1 * vN .f32 d.1) (vN .f32 d.2 * vN .f32 d.2); grind)
  have hw := powerF_ok hd (lt_of_p2 hn (by decide))
  refine (sqF_pos P3 ?_).2
  have hs := sqN_le (cv d)
  have hs2 := mul_le hn hn (N_nonneg _) (Rat.le_of_lt (p2_pos 44))
  rw [← p2_add] at hs2
  have hs3 : sqN (cv d) ≤ p2 88 := Rat.le_trans hs hs2
  have hs0 := sqN_nonneg (cv d)
  have g := hw.2
  rw [A_of_nonneg hs0] at g
  have g2 := le_A (vN .f64 (powerF d) - sqN (cv d))
  have u1' : p2 (-53) ≤ 1 := p2_small (by decide)
  have u2 : p2 (-1075) ≤ 1 := p2_small (by decide)
  have u3 := Rat.mul_le_mul_of_nonneg_right u1' hs0
  have u4 : p2 88 + (p2 88 + 1) ≤ p2 90 := by decide +kernel
  show vN .f64 (powerF d) ≤ p2 90
  generalize p2 88 = c at *
  generalize p2 90 = f at *
  generalize p2 (-53) = h at *
  generalize p2 (-1075) = l at *
  clear m1 m2 m3 m4 m5 P1 P2 P3 e1' e2' hw p1 p2' q1 q2 k1 k2
  grind
theorem sub_self {x : Nat} (h : fN .f32 x = true) : fop .sub .f32 x x = 0 := by
  obtain ⟨s, m, i, hd⟩ := isNum_ex h
  unfold fop floatBits Ieee.Format.sub
  dsimp only
  rw [show FloatKind.f32.format.read x = .number s m i from hd]
  have e : (Ieee.Datum.number s m i).sum (Ieee.Datum.number s m i).opposite = some (.number false 0 i) := by
    show some _ = some _
    congr 1
    have h0 : Ieee.signed s m (i - min i i).toNat + Ieee.signed (!s) m (i - min i i).toNat = 0 := by unfold Ieee.signed; cases s <;> simp <;> omega
    rw [h0, Int.min_self]
    cases s <;> rfl
  rw [e]
  show nrm .f32 (FloatKind.f32.format.nearest false 0 i) = 0
  unfold Ieee.Format.nearest
  rw [if_pos rfl]
  decide +kernel
theorem long_zero : longF (0, 0) = 0 := by decide +kernel

/-- How two numbers stand to each other, by their values. -/
theorem order_num {k : FloatKind} {x y : Nat} (hx : fN k x = true) (hy : fN k y = true) : ∃ (a b : Int) (base : Int), vN k x = (a : Rat) * p2 base ∧ vN k y = (b : Rat) * p2 base ∧ k.format.order x y = some (compare a b) := by
  obtain ⟨s, m, i, h1⟩ := isNum_ex hx
  obtain ⟨t, n, j, h2⟩ := isNum_ex hy
  refine ⟨Ieee.signed s m (i - min i j).toNat, Ieee.signed t n (j - min i j).toNat, min i j, ?_, ?_, ?_⟩
  · unfold vN; rw [h1]; exact (signed_val s m i (min i j) (by omega)).symm
  · unfold vN; rw [h2]; exact (signed_val t n j (min i j) (by omega)).symm
  · unfold Ieee.Format.order
    rw [show k.format.read x = .number s m i from h1, show k.format.read y = .number t n j from h2]
    rfl
theorem lss_false {k : FloatKind} {x y : Nat} (hx : fN k x = true) (hy : fN k y = true) (h : vN k y ≤ vN k x) : fcmp .lss k x y = false := by
  obtain ⟨a, b, e, h1, h2, h3⟩ := order_num hx hy
  unfold fcmp
  rw [h3]
  rw [h1, h2] at h
  have h4 := lcancel_le (p2_pos e) h
  have h5 : b ≤ a := by exact_mod_cast h4
  have : compare a b ≠ .lt := by
    intro hc; have := Int.compare_eq_lt.1 hc; omega
  cases hcmp : compare a b <;> simp_all
theorem gtr_true {k : FloatKind} {x y : Nat} (hx : fN k x = true) (hy : fN k y = true) (h : vN k y < vN k x) : fcmp .gtr k x y = true ∧ fcmp .eql k x y = false := by
  obtain ⟨a, b, e, h1, h2, h3⟩ := order_num hx hy
  unfold fcmp
  rw [h3]
  rw [h1, h2] at h
  have h5 : b < a := by
    rcases Int.lt_or_le b a with hh | hh
    · exact hh
    · have : (a : Rat) ≤ (b : Rat) := by exact_mod_cast hh
      have := Rat.mul_le_mul_of_nonneg_right this (Rat.le_of_lt (p2_pos e))
      grind
  rw [Int.compare_eq_gt.2 h5]
  exact ⟨rfl, rfl⟩
end Go.Proofs.Ytklonahkacikbaa

/- Facts of the drawn roots in a list; a byte's number. Conditions: 1 to 6 roots as they are drawn. -/
namespace Go.Proofs.Ytklonahkacikbaa
open Go Go.RowKit
set_option linter.unusedSimpArgs false
set_option linter.unusedVariables false

/-- A list of drawn roots. -/
structure DL (ls : List C2) : Prop where
  h1 : 1 ≤ ls.length
  h6 : ls.length ≤ 6
  d : ∀ k, k < ls.length → DR (nc (ls.getD k (0, 0))) k
theorem DL.fin {ls : List C2} (h : DL ls) {k : Nat} (hk : k < ls.length) : fC (nc (ls.getD k (0, 0))) ∧ N (cv (nc (ls.getD k (0, 0)))) ≤ p2 41 := (h.d k hk).small (by have := h.h6; omega)
theorem DL.allFin {ls : List C2} (h : DL ls) : allFinC ls = true := (allFinC_true_iff ls).2 fun i hi => by
  have := (fC_iff _).1 (h.fin hi).1
  rwa [show ls.getD i (0, 0) = ls[i] by simp [List.getD, hi]] at this
theorem vN0 : vN .f32 0 = 0 := by decide +kernel
/-- A number is itself. -/
theorem eql_self {x : Nat} (hx : fN .f32 x = true) : fcmp .eql .f32 x x = true := by
  obtain ⟨a, b, e, h1, h2, h3⟩ := order_num hx hx
  unfold fcmp
  rw [h3]
  have : a = b := by
    have h4 : (a : Rat) * p2 e ≤ (b : Rat) * p2 e := by rw [← h1, ← h2]; exact Rat.le_refl
    have h5 : (b : Rat) * p2 e ≤ (a : Rat) * p2 e := by rw [← h1, ← h2]; exact Rat.le_refl
    have h6 : a ≤ b := by exact_mod_cast lcancel_le (p2_pos e) h4
    have h7 : b ≤ a := by exact_mod_cast lcancel_le (p2_pos e) h5
    omega
  subst this
  have : compare a a = .eq := by simp
  rw [this]
  rfl
set_option maxRecDepth 100000 in
set_option maxHeartbeats 400000 in
theorem b10At_one (va : Value) (i : Int) (w : World) : Calls Try.prog 5 #[va, .int .i64 i, .int .i64 1] w fun e w' => e = .returned (.int .i64 0) ∧ w = w' := by
  go_enter Try.func5, Try.ntmps5
  go_wp2
  go_ret
  exact ⟨rfl, rfl⟩
theorem b10At_any (va : Value) (a : List Int) (i n : Int) (w : World) (ha : RdB w va a) (h0 : 0 ≤ i) (h1 : i ≤ 1000000) (h2 : 1 ≤ n) (h3 : n ≤ 1000000) : Calls Try.prog 5 #[va, .int .i64 i, .int .i64 n] w fun e w' => ∃ z, e = .returned (.int .i64 z) ∧ 0 ≤ z ∧ z < n ∧ w = w' := by
  by_cases h : n = 1
  · subst h
    refine (b10At_one va i w).mono ?_
    rintro e w' ⟨rfl, rfl⟩
    exact ⟨0, rfl, by omega, by omega, rfl⟩
  · exact b10At_law va a i n w ha h0 h1 (by omega) h3
end Go.Proofs.Ytklonahkacikbaa
