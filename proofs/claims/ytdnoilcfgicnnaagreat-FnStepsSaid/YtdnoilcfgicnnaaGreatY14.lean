/- Division of the polynomial of drawn roots by z - at, at a point in eighths: all is exact; the rest is the value there. Conditions: up to four roots. -/
import Derived.Test.YtdnoilcfgicnnaaGreatY8
import Derived.Test.YtdnoilcfgicnnaaGreatY13
namespace Go.Proofs.YtdnoilcfgicnnaaGreat
open Go
set_option linter.unusedSimpArgs false
set_option linter.unusedVariables false

/-- A quotient by 1 is the number itself. -/
theorem quotient_one {a : Ieee.Datum} (ha : isNum a = true) {s : Bool} {m : Nat} {i : Int} (he : a = .number s m i) (hm : m.log2 ≤ 53) :
    ∃ d, Ieee.Datum.quotient 54 a (.number false 4503599627370496 (-52)) = some d ∧ isNum d = true ∧ valD d = valD a := by
  subst he
  unfold Ieee.Datum.quotient
  dsimp only
  rw [if_neg (by decide)]
  have hl : (4503599627370496 : Nat).log2 = 52 := by decide +kernel
  rw [hl]
  generalize hmore : 54 + 52 - m.log2 = more
  refine ⟨_, rfl, rfl, ?_⟩
  have hk : 53 ≤ more := by omega
  obtain ⟨k, rfl⟩ : ∃ k, more = 52 + k := ⟨more - 52, by omega⟩
  rw [Nat.shiftLeft_eq]
  have e1 : m * 2 ^ (52 + k) = (m * 2 ^ k) * 4503599627370496 := by rw [Nat.pow_add]; show m * (4503599627370496 * 2 ^ k) = _; rw [Nat.mul_comm 4503599627370496, Nat.mul_assoc]
  rw [e1, Nat.mul_div_cancel _ (by decide), Nat.mul_mod_left]
  show sg (s ^^ false) _ = sg s _
  rw [Bool.xor_false]
  congr 1
  show (((2 * (m * 2 ^ k) + 0 : Nat)) : Rat) * p2 _ = (m : Rat) * p2 i
  have e2 : p2 i = ((2 * 2 ^ k : Nat) : Rat) * p2 (i - -52 - ((52 + k : Nat) : Int) - 1) := by
    have e1 : (2 * 2 ^ k : Nat) = 2 ^ (k + 1) := by rw [Nat.pow_succ]; omega
    rw [e1, ← p2_nat, ← p2_add]; congr 1; omega
  rw [e2, Nat.add_zero, show 2 * (m * 2 ^ k) = m * (2 * 2 ^ k) by rw [Nat.mul_left_comm], Rat.natCast_mul]
  grind
theorem quo_one {x : Nat} (hx : fN .f64 x = true) (ht : A (vN .f64 x) < p2 1000) : Res .f64 (fop .quo .f64 x 4607182418800017408) (vN .f64 x) := by
  obtain ⟨s, m, e, h1, h2, h3⟩ := digits .f64 x hx
  have hy : FloatKind.f64.format.read 4607182418800017408 = .number false 4503599627370496 (-52) := by decide +kernel
  have hm : m.log2 ≤ 53 := by
    have : bK .f64 = 53 := rfl
    rw [this] at h2
    by_cases h0 : m = 0
    · subst h0; decide
    · have := (Nat.log2_lt h0).2 h2; omega
  obtain ⟨d, q1, q2, q3⟩ := quotient_one (a := FloatKind.f64.format.read x) hx h1 hm
  have hf : fop .quo .f64 x 4607182418800017408 = nrm .f64 (FloatKind.f64.encode d) := by
    unfold fop floatBits Ieee.Format.div
    dsimp only
    rw [hy, show Ieee.Datum.quotient (FloatKind.f64.format.fractionBits + 2) (FloatKind.f64.format.read x) (.number false 4503599627370496 (-52)) = some d from q1]
    rfl
  rw [hf]
  have hv : valD d = vN .f64 x := q3
  have := res_write (k := .f64) q2 (by rw [hv]; have := p2_mono (show (1000 : Int) ≤ 1023 by decide); show _ < p2 1023; grind)
  rw [hv] at this
  exact this
theorem Gr.quoU {x y : C2} {u : Int × Int} {j : Nat} (hx : Gr x u.1 u.2 j) (hu : nz u < 2 ^ 24) (hj : j ≤ 100) (hp : powerF y = 4607182418800017408) (hy : fC y) (ey : cv y = one2) : quoFit x y ∧ Gr (quoC x y) u.1 u.2 j := by
  obtain ⟨a, b⟩ := u
  simp only [nz] at *
  obtain ⟨⟨x1, x2⟩, x3, x4⟩ := hx.parts
  obtain ⟨c1, c2⟩ := conjC_ok hy
  have c3 : vN .f32 (conjC y).1 = 1 := (congrArg Q2.re c2).trans (by rw [ey]; decide +kernel)
  have c4 : vN .f32 (conjC y).2 = 0 := (congrArg Q2.im c2).trans (by rw [ey]; decide +kernel)
  have b24 : p2 ((24 : Nat) : Int) ≤ p2 200 := p2_mono (by decide)
  have l1 := dy_lt (j := j) (n := 24) (a := a) (by omega)
  have l2 := dy_lt (j := j) (n := 24) (a := b) (by omega)
  have l1' := l1
  have l2' := l2
  rw [← x2] at l1
  rw [← x4] at l2
  have l3 : A (vN .f32 (conjC y).1) < p2 200 := by rw [c3]; decide +kernel
  have l4 : A (vN .f32 (conjC y).2) < p2 200 := by rw [c4]; decide +kernel
  obtain ⟨p1, p2'⟩ := prod_exact x1 c1.1 (by grind) l3
  obtain ⟨q1, q2⟩ := prod_exact x3 c1.2 (by grind) l4
  obtain ⟨r1, r2⟩ := prod_exact x1 c1.2 (by grind) l4
  obtain ⟨s1, s2⟩ := prod_exact x3 c1.1 (by grind) l3
  have hr : ∀ {P Q : Nat} {p q : Rat} {a : Int}, fN .f64 P = true → vN .f64 P = p → fN .f64 Q = true → vN .f64 Q = q → a.natAbs < 2 ^ 24 →
      (p + q = (a : Rat) * p2 (-(j : Int)) → fN .f64 (fop .add .f64 P Q) = true ∧ vN .f64 (fop .add .f64 P Q) = (a : Rat) * p2 (-(j : Int))) ∧ (p - q = (a : Rat) * p2 (-(j : Int)) → fN .f64 (fop .sub .f64 P Q) = true ∧ vN .f64 (fop .sub .f64 P Q) = (a : Rat) * p2 (-(j : Int))) := by
    intro P Q p q a hP hp hQ hq ha
    have hlt := dy_lt (j := j) ha
    have h24 : p2 ((24 : Nat) : Int) ≤ p2 1023 := p2_mono (by decide)
    constructor
    · intro h
      have R1 := fop_add_res (k := .f64) hP hQ (by rw [hp, hq, h]; show _ < p2 1023; grind)
      rw [hp, hq] at R1
      exact ⟨R1.1, (exact64 R1 h ha hj).trans h⟩
    · intro h
      have R1 := fop_sub_res (k := .f64) hP hQ (by rw [hp, hq, h]; show _ < p2 1023; grind)
      rw [hp, hq] at R1
      exact ⟨R1.1, (exact64 R1 h ha hj).trans h⟩
  obtain ⟨t1, t2⟩ := (hr p1 p2' q1 q2 (a := a) (by omega)).2 (by rw [x2, x4, c3, c4]; grind)
  obtain ⟨t3, t4⟩ := (hr r1 r2 s1 s2 (a := b) (by omega)).1 (by rw [x2, x4, c3, c4]; grind)
  have fin : ∀ {x : Nat} {a : Int}, fN .f64 x = true → vN .f64 x = (a : Rat) * p2 (-(j : Int)) → a.natAbs < 2 ^ 24 → fit1 (fop .quo .f64 x 4607182418800017408) ∧ fN .f32 (nw (fop .quo .f64 x 4607182418800017408)) = true ∧ vN .f32 (nw (fop .quo .f64 x 4607182418800017408)) = (a : Rat) * p2 (-(j : Int)) := by
    intro x a hf hv ha
    have hlt := dy_lt (j := j) ha
    have h24 : p2 ((24 : Nat) : Int) ≤ p2 1000 := p2_mono (by decide)
    have h25 : p2 ((24 : Nat) : Int) ≤ p2 127 := p2_mono (by decide)
    have R1 := quo_one hf (by rw [hv]; grind)
    have v1 := (exact64 R1 hv ha hj).trans hv
    obtain ⟨f1, R2⟩ := nw_ok R1.1 (by rw [v1]; grind)
    rw [v1] at R2
    exact ⟨f1, R2.1, exact32 R2 rfl ha hj⟩
  have t5 : fN .f64 (timesF x (conjC y)).1 = true ∧ vN .f64 (timesF x (conjC y)).1 = (a : Rat) * p2 (-(j : Int)) := ⟨t1, t2⟩
  have t6 : fN .f64 (timesF x (conjC y)).2 = true ∧ vN .f64 (timesF x (conjC y)).2 = (b : Rat) * p2 (-(j : Int)) := ⟨t3, t4⟩
  unfold quoFit quoC quoF
  rw [hp]
  generalize timesF x (conjC y) = T at *
  generalize 4607182418800017408 = one at *
  obtain ⟨f1, g1, h1⟩ := fin (a := a) t5.1 t5.2 (by omega)
  obtain ⟨f2, g2, h2⟩ := fin (a := b) t6.1 t6.2 (by omega)
  exact ⟨⟨f1, f2⟩, ⟨g1, g2⟩, q2e h1 h2⟩
theorem Gr.quoOne {x : C2} {u : Int × Int} {j : Nat} (hx : Gr x u.1 u.2 j) (hu : nz u < 2 ^ 24) (hj : j ≤ 100) : quoFit x (nc (1065353216, 0)) ∧ Gr (quoC x (nc (1065353216, 0))) u.1 u.2 j :=
  Gr.quoU hx hu hj (by decide +kernel) Gr.one.1 (gr_one Gr.one)
theorem Gr.neg {x : C2} {a b : Int} {j : Nat} (hx : Gr x a b j) : Gr (negF x.1, negF x.2) (-a) (-b) j := by
  obtain ⟨⟨x1, x2⟩, x3, x4⟩ := hx.parts
  obtain ⟨n1, n2⟩ := negF_ok x1
  obtain ⟨n3, n4⟩ := negF_ok x3
  exact ⟨⟨n1, n3⟩, q2e (by show vN .f32 (negF x.1) = _; rw [n2, x2, Rat.intCast_neg]; grind) (by show vN .f32 (negF x.2) = _; rw [n4, x4, Rat.intCast_neg]; grind)⟩
theorem zm_neg (u v : Int × Int) : zm u (-v.1, -v.2) = (-(zm u v).1, -(zm u v).2) := by simp only [zm, Prod.mk.injEq]; constructor <;> grind
theorem zs_neg (u v : Int × Int) : zs u (-v.1, -v.2) = za v u := by simp only [zs, za, Prod.mk.injEq]; constructor <;> omega
theorem nz_neg (v : Int × Int) : nz (-v.1, -v.2) = nz v := by simp [nz]
theorem set_at {L : List C2} {i : Nat} {x : C2} (h : i < L.length) : (L.set i x).getD i (0, 0) = x := by simp [List.getD, h]
theorem set_off {L : List C2} {i k : Nat} {x : C2} (h : i ≠ k) : (L.set i x).getD k (0, 0) = L.getD k (0, 0) := by simp [List.getD, List.getElem?_set_ne h]

section
variable {L : List C2} {X : Nat → Int × Int} {m : Nat} {z : C2} {Z : Int × Int}
abbrev dv (z : C2) : List C2 := [(negF z.1, negF z.2), nc (1065353216, 0)]
theorem divSt_len (G F : List C2) (n m j : Nat) : (divSt G F n m j).1.length = F.length ∧ (divSt G F n m j).2.length = m := by
  induction j with
  | zero => simp [divSt]
  | succ j ih => simp only [divSt, divIn_length, List.length_set]; exact ih
/-- One round, all exact. -/
theorem round_exact (hX : ∀ i, nz (X i) ≤ 24) (hm : m ≤ 4) (h : ∀ i, i < m → Gr (L.getD i (0, 0)) (X i).1 (X i).2 3) (hz : Gr z Z.1 Z.2 3) (hZ : nz Z ≤ 24) {j : Nat} (hj : j < m) {R : List C2} (hl : R.length = m + 1)
    (h1 : Gr (R.getD (m - j) (0, 0)) (ez X m Z j).1 (ez X m Z j).2 (3 * j)) (h2 : ∀ i, i < m - j → R.getD i (0, 0) = (rootsL L m).getD i (0, 0)) :
    quoFit (R.getD (m - 1 - j + 1) (0, 0)) ((dv z).getD 1 (0, 0)) ∧ (∀ i, i < 2 → fit2 (timesF (divQ (dv z) 1 (m - 1 - j) R) ((dv z).getD i (0, 0)))) ∧
    Gr (divQ (dv z) 1 (m - 1 - j) R) (ez X m Z j).1 (ez X m Z j).2 (3 * j) ∧
    Gr ((divIn (dv z) (divQ (dv z) 1 (m - 1 - j) R) (m - 1 - j) R 2).getD (m - (j + 1)) (0, 0)) (ez X m Z (j + 1)).1 (ez X m Z (j + 1)).2 (3 * (j + 1)) ∧
    ∀ i, i < m - (j + 1) → (divIn (dv z) (divQ (dv z) 1 (m - 1 - j) R) (m - 1 - j) R 2).getD i (0, 0) = (rootsL L m).getD i (0, 0) := by
  have b1 := ez_bd X hX m Z hZ j
  have b2 := eb_lt m (by omega) j (by omega) (by omega)
  have b3 := eb_lt2 m (by omega) j (by omega) (by omega)
  have b4 := Nat.mul_le_mul b1 hZ
  have hk : m - 1 - j + 1 = m - j := by omega
  have hk' : m - (j + 1) = m - 1 - j := by omega
  rw [hk, hk']
  obtain ⟨q1, q2⟩ := Gr.quoOne (u := ez X m Z j) h1 (by omega) (by omega)
  have hQ : divQ (dv z) 1 (m - 1 - j) R = quoC (R.getD (m - j) (0, 0)) (nc (1065353216, 0)) := by unfold divQ; rw [hk]; rfl
  rw [hQ]
  generalize quoC (R.getD (m - j) (0, 0)) (nc (1065353216, 0)) = q at *
  have hn : Gr ((dv z).getD 0 (0, 0)) (-Z.1) (-Z.2) 3 := hz.neg
  obtain ⟨f0, g0⟩ := Gr.mulB (u := ez X m Z j) (v := (-Z.1, -Z.2)) q2 hn (by omega) (by rw [nz_neg]; omega) (by rw [nz_neg]; omega) (by omega)
  obtain ⟨f1, g1⟩ := Gr.mulB (u := ez X m Z j) (v := (1, 0)) (y := nc (1065353216, 0)) q2 Gr.one (by omega) (by decide) (by show nz (ez X m Z j) * 1 < _; omega) (by omega)
  have T := (roots_exact hX hm h).1 (m - 1 - j)
  rw [catF_in, show 3 * (m - (m - 1 - j)) = 3 * (j + 1) by omega] at T
  have hs := Gr.subB (u := cz X m (m - 1 - j)) (v := zm (ez X m Z j) (-Z.1, -Z.2)) T (show Gr (mulC q ((dv z).getD 0 (0, 0))) _ _ (3 * (j + 1)) from g0) (by
    have := nz_mul (ez X m Z j) (-Z.1, -Z.2)
    rw [nz_neg] at this
    have h5 := cz_bd X hX m (m - 1 - j)
    have e : m - j - 1 = m - 1 - j := by omega
    rw [e] at b3
    omega) (by omega)
  rw [zm_neg, zs_neg] at hs
  have he : ez X m Z (j + 1) = za (zm (ez X m Z j) Z) (cz X m (m - 1 - j)) := by
    have e : m - j - 1 = m - 1 - j := by omega
    show za _ (cz X m (m - j - 1)) = _
    rw [e]
  rw [← he] at hs
  refine ⟨q1, ?_, q2, ?_, ?_⟩
  · intro i hi
    obtain rfl | rfl : i = 0 ∨ i = 1 := by omega
    · exact f0
    · exact f1
  · show Gr ((((R.set (m - 1 - j + 0) _).set (m - 1 - j + 1) _)).getD (m - 1 - j) (0, 0)) _ _ _
    rw [set_off (by omega), Nat.add_zero, set_at (by omega)]
    show Gr (subC (R.getD (m - 1 - j + 0) (0, 0)) _) _ _ _
    rw [Nat.add_zero, h2 _ (by omega)]
    exact hs
  · intro i hi
    show (((R.set (m - 1 - j + 0) _).set (m - 1 - j + 1) _)).getD i (0, 0) = _
    rw [set_off (by omega), set_off (by omega)]
    exact h2 i (by omega)
theorem divSt_exact (hX : ∀ i, nz (X i) ≤ 24) (hm : m ≤ 4) (h : ∀ i, i < m → Gr (L.getD i (0, 0)) (X i).1 (X i).2 3) (hz : Gr z Z.1 Z.2 3) (hZ : nz Z ≤ 24) : ∀ j, j ≤ m →
    Gr ((divSt (dv z) (rootsL L m) 1 m j).1.getD (m - j) (0, 0)) (ez X m Z j).1 (ez X m Z j).2 (3 * j) ∧ (∀ i, i < m - j → (divSt (dv z) (rootsL L m) 1 m j).1.getD i (0, 0) = (rootsL L m).getD i (0, 0)) ∧
    (∀ i, i < j → Gr ((divSt (dv z) (rootsL L m) 1 m j).2.getD (m - 1 - i) (0, 0)) (ez X m Z i).1 (ez X m Z i).2 (3 * i)) := by
  intro j
  induction j with
  | zero =>
    intro _
    refine ⟨?_, fun _ _ => rfl, fun i hi => absurd hi (by omega)⟩
    have T := (roots_exact hX hm h).1 m
    rw [catF_in, show 3 * (m - m) = 3 * 0 by omega] at T
    exact T
  | succ j ih =>
    intro hj
    obtain ⟨i1, i2, i3⟩ := ih (by omega)
    obtain ⟨a, b, c, d, e⟩ := round_exact hX hm h hz hZ (j := j) (by omega) (by rw [(divSt_len _ _ _ _ _).1, rootsL_length]) i1 i2
    refine ⟨d, e, fun i hi => ?_⟩
    show Gr (List.getD (List.set _ _ _) _ _) _ _ _
    by_cases hij : i = j
    · subst hij
      rw [set_at (by rw [(divSt_len _ _ _ _ _).2]; omega)]
      exact c
    · rw [set_off (by omega)]
      exact i3 i (by omega)
/-- The division by z - at. -/
theorem leave_plain (hX : ∀ i, nz (X i) ≤ 24) (h1 : 1 ≤ m) (hm : m ≤ 4) (h : ∀ i, i < m → Gr (L.getD i (0, 0)) (X i).1 (X i).2 3) (hz : Gr z Z.1 Z.2 3) (hZ : nz Z ≤ 24) :
    validF (dv z) = true ∧ safeDiv (dv z) (rootsL L m) 1 m ∧ ∃ Q r, Q.length = m ∧ polyF (divSt (dv z) (rootsL L m) 1 m m).2 = (Q, true) ∧ polyF ((divSt (dv z) (rootsL L m) 1 m m).1.take 1) = ([r], true) ∧ Gr r (ez X m Z m).1 (ez X m Z m).2 (3 * m) := by
  have D := divSt_exact hX hm h hz hZ
  refine ⟨?_, ?_, ?_⟩
  · have hz1 : zeroC (nc (1065353216, 0)) = false := not_zeroC Gr.one.1 (by rw [gr_one Gr.one]; decide)
    have f1 := finG hz.neg
    have f2 := finG Gr.one
    simp [validF, dv, f1, f2, hz1]
  · intro j hj
    obtain ⟨i1, i2, i3⟩ := D j (by omega)
    obtain ⟨a, b, _⟩ := round_exact hX hm h hz hZ hj (by rw [(divSt_len _ _ _ _ _).1, rootsL_length]) i1 i2
    exact ⟨a, b⟩
  · obtain ⟨i1, i2, i3⟩ := D m (Nat.le_refl _)
    have l1 := (divSt_len (dv z) (rootsL L m) 1 m m).1
    have l2 := (divSt_len (dv z) (rootsL L m) 1 m m).2
    rw [rootsL_length] at l1
    rw [Nat.sub_self] at i1
    generalize (divSt (dv z) (rootsL L m) 1 m m).1 = R at *
    generalize (divSt (dv z) (rootsL L m) 1 m m).2 = Q at *
    have ht : Gr (Q.getD (m - 1) (0, 0)) 1 0 0 := by
      have := i3 0 h1
      rw [show m - 1 - 0 = m - 1 by omega] at this
      have e : ez X m Z 0 = (1, 0) := cz_top X m
      rwa [e] at this
    refine ⟨Q, R.getD 0 (0, 0), l2, ?_, ?_, i1⟩
    · by_cases hm1 : m = 1
      · subst hm1
        obtain ⟨q, rfl⟩ := List.length_eq_one_iff.1 l2
        exact (poly_one (finG ht)).2
      · refine (poly_full (w := Q.getD (m - 1) (0, 0)) (by omega) ?_ (by rw [l2]) ht).1
        rw [List.all_eq_true]
        intro x hx
        obtain ⟨i, hi, rfl⟩ := List.getElem_of_mem hx
        have := i3 (m - 1 - i) (by omega)
        rw [show m - 1 - (m - 1 - i) = i by omega] at this
        have := finG this
        rwa [show Q.getD i (0, 0) = Q[i] by simp [List.getD, hi]] at this
    · cases R with
      | nil => simp at l1
      | cons r R => exact (poly_one (finG i1)).2
end
end Go.Proofs.YtdnoilcfgicnnaaGreat

/- One root more: what it does to the value of a polynomial, to that of its slope, and to that of the slope of this. Conditions: none. -/
namespace Go.Proofs.YtdnoilcfgicnnaaGreat
open Go
set_option linter.unusedSimpArgs false
set_option linter.unusedVariables false

def zero2 : Q2 := ⟨0, 0⟩
/-- The values of polynomials of one to five terms, of their slopes, of the slopes of these. -/
def v1 (c0 c1 z : Q2) : Q2 := c1 * z + c0
def v2 (c0 c1 c2 z : Q2) : Q2 := (c2 * z + c1) * z + c0
def v3 (c0 c1 c2 c3 z : Q2) : Q2 := ((c3 * z + c2) * z + c1) * z + c0
def v4 (c0 c1 c2 c3 c4 z : Q2) : Q2 := (((c4 * z + c3) * z + c2) * z + c1) * z + c0
def sc (k : Rat) (c : Q2) : Q2 := ⟨k * c.re, k * c.im⟩
@[simp] theorem re_sc (k : Rat) (c : Q2) : (sc k c).re = k * c.re := rfl
@[simp] theorem im_sc (k : Rat) (c : Q2) : (sc k c).im = k * c.im := rfl
theorem up1 (c0 c1 z r : Q2) : v2 (zero2 - r * c0) (c0 - r * c1) c1 z = (z - r) * v1 c0 c1 z ∧ v1 (c0 - r * c1) (sc 2 c1) z = v1 c0 c1 z + (z - r) * c1 ∧ sc 2 c1 = sc 2 c1 + (z - r) * zero2 := by
  refine ⟨q2e ?_ ?_, q2e ?_ ?_, q2e ?_ ?_⟩ <;> (simp [v1, v2, zero2]; try grind)
theorem up2 (c0 c1 c2 z r : Q2) : v3 (zero2 - r * c0) (c0 - r * c1) (c1 - r * c2) c2 z = (z - r) * v2 c0 c1 c2 z ∧ v2 (c0 - r * c1) (sc 2 (c1 - r * c2)) (sc 3 c2) z = v2 c0 c1 c2 z + (z - r) * v1 c1 (sc 2 c2) z ∧
    v1 (sc 2 (c1 - r * c2)) (sc 6 c2) z = sc 2 (v1 c1 (sc 2 c2) z) + (z - r) * sc 2 c2 := by
  refine ⟨q2e ?_ ?_, q2e ?_ ?_, q2e ?_ ?_⟩ <;> (simp [v1, v2, v3, zero2]; try grind)
theorem up3 (c0 c1 c2 c3 z r : Q2) : v4 (zero2 - r * c0) (c0 - r * c1) (c1 - r * c2) (c2 - r * c3) c3 z = (z - r) * v3 c0 c1 c2 c3 z ∧
    v3 (c0 - r * c1) (sc 2 (c1 - r * c2)) (sc 3 (c2 - r * c3)) (sc 4 c3) z = v3 c0 c1 c2 c3 z + (z - r) * v2 c1 (sc 2 c2) (sc 3 c3) z ∧
    v2 (sc 2 (c1 - r * c2)) (sc 6 (c2 - r * c3)) (sc 12 c3) z = sc 2 (v2 c1 (sc 2 c2) (sc 3 c3) z) + (z - r) * v1 (sc 2 c2) (sc 6 c3) z := by
  refine ⟨q2e ?_ ?_, q2e ?_ ?_, q2e ?_ ?_⟩ <;> (simp [v1, v2, v3, v4, zero2]; try grind)
end Go.Proofs.YtdnoilcfgicnnaaGreat

/- The values beside a root, divided by the product of the distances to the others. Conditions: the distances to the others have inverses. -/
namespace Go.Proofs.YtdnoilcfgicnnaaGreat
open Go
set_option linter.unusedSimpArgs false
set_option linter.unusedVariables false

@[simp] theorem re_one2 : one2.re = 1 := rfl
@[simp] theorem im_one2 : one2.im = 0 := rfl
@[simp] theorem re_zero2 : zero2.re = 0 := rfl
@[simp] theorem im_zero2 : zero2.im = 0 := rfl
theorem inv_parts {u d : Q2} (h : u * d = one2) : u.re * d.re - u.im * d.im = 1 ∧ u.re * d.im + u.im * d.re = 0 := ⟨congrArg Q2.re h, congrArg Q2.im h⟩
theorem out_v {u d v K : Q2} (h : u * d = one2) : (d * v) * (u * K) = v * K := by
  obtain ⟨h1, h2⟩ := inv_parts h
  refine q2e ?_ ?_ <;> (simp; grind)
theorem out_s {u d v s K : Q2} (h : u * d = one2) : (v + d * s) * (u * K) = u * (v * K) + s * K := by
  obtain ⟨h1, h2⟩ := inv_parts h
  refine q2e ?_ ?_ <;> (simp; grind)
theorem out_t {u d s t K : Q2} (h : u * d = one2) : (sc 2 s + d * t) * (u * K) = sc 2 (u * (s * K)) + t * K := by
  obtain ⟨h1, h2⟩ := inv_parts h
  refine q2e ?_ ?_ <;> (simp; grind)
theorem in_v {d v K : Q2} : (d * v) * K = d * (v * K) := by refine q2e ?_ ?_ <;> (simp; grind)
theorem in_s {d v s K : Q2} : (v + d * s) * K = v * K + d * (s * K) := by refine q2e ?_ ?_ <;> (simp; grind)
theorem in_t {d s t K : Q2} : (sc 2 s + d * t) * K = sc 2 (s * K) + d * (t * K) := by refine q2e ?_ ?_ <;> (simp; grind)

/-- Value, slope, and the slope of this, of the product of the first distances. -/
def VV (d : Nat → Q2) : Nat → Q2 × Q2 × Q2
  | 0 => (one2, zero2, zero2)
  | m + 1 => (d m * (VV d m).1, (VV d m).1 + d m * (VV d m).2.1, sc 2 (VV d m).2.1 + d m * (VV d m).2.2)
/-- The product of the inverses but that of one; their sum; the sum of the products of two of them. -/
def KK (u : Nat → Q2) (i : Nat) : Nat → Q2
  | 0 => one2
  | m + 1 => if m = i then KK u i m else u m * KK u i m
def WW (u : Nat → Q2) (i : Nat) : Nat → Q2
  | 0 => zero2
  | m + 1 => if m = i then WW u i m else u m + WW u i m
def EE (u : Nat → Q2) (i : Nat) : Nat → Q2
  | 0 => zero2
  | m + 1 => if m = i then EE u i m else EE u i m + u m * WW u i m
/-- The product of the others' distances. -/
def PP (d : Nat → Q2) (i : Nat) : Nat → Q2
  | 0 => one2
  | m + 1 => if m = i then PP d i m else d m * PP d i m

theorem norm_before {d u : Nat → Q2} {i M : Nat} (h : ∀ j, j < M → j ≠ i → u j * d j = one2) (m : Nat) (hm : m ≤ i) (hM : m ≤ M) :
    (VV d m).1 * KK u i m = one2 ∧ (VV d m).2.1 * KK u i m = WW u i m ∧ (VV d m).2.2 * KK u i m = sc 2 (EE u i m) := by
  induction m with
  | zero => refine ⟨q2e ?_ ?_, q2e ?_ ?_, q2e ?_ ?_⟩ <;> (simp [VV, KK, WW, EE] <;> grind)
  | succ m ih =>
    obtain ⟨a, b, c⟩ := ih (by omega) (by omega)
    have hm' : m ≠ i := by omega
    have hu := h m (by omega) hm'
    rw [KK, WW, EE, if_neg hm', if_neg hm', if_neg hm']
    refine ⟨?_, ?_, ?_⟩
    · rw [VV, out_v hu, a]
    · rw [VV, out_s hu, a, b]; refine q2e ?_ ?_ <;> (simp; try grind)
    · rw [VV, out_t hu, b, c]; refine q2e ?_ ?_ <;> (simp; try grind)
theorem norm_after {d u : Nat → Q2} {i M : Nat} (h : ∀ j, j < M → j ≠ i → u j * d j = one2) (m : Nat) (hm : i < m) (hM : m ≤ M) :
    (VV d m).1 * KK u i m = d i ∧ (VV d m).2.1 * KK u i m = one2 + d i * WW u i m ∧ (VV d m).2.2 * KK u i m = sc 2 (WW u i m) + sc 2 (d i * EE u i m) := by
  induction m with
  | zero => omega
  | succ m ih =>
    by_cases hmi : m = i
    · subst hmi
      obtain ⟨a, b, c⟩ := norm_before h m (Nat.le_refl _) (by omega)
      rw [KK, WW, EE, if_pos rfl, if_pos rfl, if_pos rfl]
      refine ⟨?_, ?_, ?_⟩
      · rw [VV, in_v, a]; refine q2e ?_ ?_ <;> (simp; try grind)
      · rw [VV, in_s, a, b]
      · rw [VV, in_t, b, c]; refine q2e ?_ ?_ <;> (simp; try grind)
    · obtain ⟨a, b, c⟩ := ih (by omega) (by omega)
      have hu := h m (by omega) hmi
      rw [KK, WW, EE, if_neg hmi, if_neg hmi, if_neg hmi]
      refine ⟨?_, ?_, ?_⟩
      · rw [VV, out_v hu, a]
      · rw [VV, out_s hu, a, b]; refine q2e ?_ ?_ <;> (simp; try grind)
      · rw [VV, out_t hu, b, c]; refine q2e ?_ ?_ <;> (simp; try grind)
theorem KP {d u : Nat → Q2} {i M : Nat} (h : ∀ j, j < M → j ≠ i → u j * d j = one2) (m : Nat) (hM : m ≤ M) : KK u i m * PP d i m = one2 := by
  induction m with
  | zero => refine q2e ?_ ?_ <;> (simp [KK, PP] <;> grind)
  | succ m ih =>
    have ih := ih (by omega)
    by_cases hmi : m = i
    · rw [KK, PP, if_pos hmi, if_pos hmi]; exact ih
    · rw [KK, PP, if_neg hmi, if_neg hmi]
      obtain ⟨h1, h2⟩ := inv_parts (h m (by omega) hmi)
      obtain ⟨h3, h4⟩ := inv_parts ih
      refine q2e ?_ ?_ <;> (simp; grind)
end Go.Proofs.YtdnoilcfgicnnaaGreat

/- Bounds of the inverses of the distances beside a root, of their sums and products. Conditions: roots as they are drawn. -/
namespace Go.Proofs.YtdnoilcfgicnnaaGreat
open Go
set_option linter.unusedSimpArgs false
set_option linter.unusedVariables false

theorem N_one2 : N one2 = 1 := by decide +kernel
theorem N_zero2 : N zero2 = 0 := by decide +kernel
theorem inv_norm {u d : Q2} (h : u * d = one2) (hd : 0 < N d) : N u * (4 * A d.re) ≤ 5 ∧ N d * N u ≤ 2 := by
  have h1 := quo_sq h
  rw [N_one2] at h1
  have h2 := sqN_pos hd
  have h3 := sqN_ge d
  have hx := A_nonneg d.re
  have hy := A_nonneg d.im
  have h4 : 4 * A d.re * N d ≤ 5 * sqN d := by
    have e := sq_nonneg (A d.re - 2 * A d.im)
    have e2 := sq_nonneg (A d.im)
    unfold sqN N
    rw [sq_A d.re, sq_A d.im]
    grind
  constructor
  · refine lcancel_le h2 ?_
    have k := Rat.mul_le_mul_of_nonneg_left h1 (show 0 ≤ 4 * A d.re by grind)
    grind
  · refine lcancel_le h2 ?_
    have k := Rat.mul_le_mul_of_nonneg_left h1 (Rat.le_of_lt hd)
    grind
/-- How far the others lie, in 64ths. -/
def bL (i j : Nat) : Nat := if j < i then 64 * (i - j) - 31 else 64 * (j - i) - 33
def ub (i j : Nat) : Rat := 80 / (bL i j : Nat)
def KB (i : Nat) : Nat → Rat | 0 => 1 | m + 1 => if m = i then KB i m else ub i m * KB i m
def WB (i : Nat) : Nat → Rat | 0 => 0 | m + 1 => if m = i then WB i m else ub i m + WB i m
def EB (i : Nat) : Nat → Rat | 0 => 0 | m + 1 => if m = i then EB i m else EB i m + ub i m * WB i m
def CB (i : Nat) : Nat → Rat | 0 => 1 | m + 1 => if m = i then CB i m else 2 * CB i m
theorem KB_nn (i m : Nat) (h : ∀ j, 0 ≤ ub i j) : 0 ≤ KB i m := by
  induction m with
  | zero => show (0 : Rat) ≤ 1; decide
  | succ m ih => rw [KB]; split; exact ih; exact Rat.mul_nonneg (h m) ih
theorem ub_mul {i j : Nat} (h : bL i j ≠ 0) : ub i j * (bL i j : Nat) = 80 := by
  unfold ub
  rw [Rat.div_def, Rat.mul_assoc, Rat.inv_mul_cancel _ (by exact_mod_cast h)]
  decide +kernel
theorem ub_nn (i j : Nat) : 0 ≤ ub i j := by
  by_cases h : bL i j = 0
  · unfold ub; rw [h]; decide +kernel
  · have hp : (0 : Rat) < (bL i j : Nat) := by exact_mod_cast Nat.pos_of_ne_zero h
    refine lcancel_le hp ?_
    rw [ub_mul h]; grind
section
variable {u d : Nat → Q2} {i n : Nat}
theorem KK_le (hu : ∀ j, j < n → j ≠ i → N (u j) ≤ ub i j) (m : Nat) (hm : m ≤ n) : N (KK u i m) ≤ KB i m := by
  induction m with
  | zero => rw [KK, KB, N_one2]; exact Rat.le_refl
  | succ m ih =>
    have ih := ih (by omega)
    rw [KK, KB]
    by_cases h : m = i
    · rw [if_pos h, if_pos h]; exact ih
    · rw [if_neg h, if_neg h]
      exact Rat.le_trans (N_mul _ _) (mul_le (hu m (by omega) h) ih (N_nonneg _) (ub_nn i m))
theorem WW_le (hu : ∀ j, j < n → j ≠ i → N (u j) ≤ ub i j) (m : Nat) (hm : m ≤ n) : N (WW u i m) ≤ WB i m := by
  induction m with
  | zero => rw [WW, WB, N_zero2]; exact Rat.le_refl
  | succ m ih =>
    have ih := ih (by omega)
    rw [WW, WB]
    by_cases h : m = i
    · rw [if_pos h, if_pos h]; exact ih
    · rw [if_neg h, if_neg h]
      have a := N_add (u m) (WW u i m)
      have b := hu m (by omega) h
      grind
theorem EE_le (hu : ∀ j, j < n → j ≠ i → N (u j) ≤ ub i j) (m : Nat) (hm : m ≤ n) : N (EE u i m) ≤ EB i m := by
  induction m with
  | zero => rw [EE, EB, N_zero2]; exact Rat.le_refl
  | succ m ih =>
    have ih := ih (by omega)
    rw [EE, EB]
    by_cases h : m = i
    · rw [if_pos h, if_pos h]; exact ih
    · rw [if_neg h, if_neg h]
      have a := N_add (EE u i m) (u m * WW u i m)
      have b := Rat.le_trans (N_mul (u m) (WW u i m)) (mul_le (hu m (by omega) h) (WW_le hu m (by omega)) (N_nonneg _) (ub_nn i m))
      grind
theorem CC_le (hp : ∀ j, j < n → j ≠ i → N (d j) * N (u j) ≤ 2) (m : Nat) (hm : m ≤ n) : N (PP d i m) * N (KK u i m) ≤ CB i m := by
  induction m with
  | zero => rw [PP, KK, CB, N_one2]; decide +kernel
  | succ m ih =>
    have ih := ih (by omega)
    rw [PP, KK, CB]
    by_cases h : m = i
    · rw [if_pos h, if_pos h, if_pos h]; exact ih
    · rw [if_neg h, if_neg h, if_neg h]
      have a := N_mul (d m) (PP d i m)
      have b := N_mul (u m) (KK u i m)
      have c := mul_le a b (N_nonneg _) (Rat.mul_nonneg (N_nonneg _) (N_nonneg _))
      have e := mul_le (hp m (by omega) h) ih (Rat.mul_nonneg (N_nonneg _) (N_nonneg _)) (by decide)
      grind
end
end Go.Proofs.YtdnoilcfgicnnaaGreat

/- The point beside a drawn root, its distances to the roots, their inverses; the terms of the polynomial. Conditions: up to four roots as they are drawn. -/
namespace Go.Proofs.YtdnoilcfgicnnaaGreat
open Go
set_option linter.unusedSimpArgs false
set_option linter.unusedVariables false

def inv2 (d : Q2) : Q2 := ⟨d.re * (sqN d)⁻¹, -d.im * (sqN d)⁻¹⟩
theorem inv2_mul {d : Q2} (h : 0 < N d) : inv2 d * d = one2 := by
  have h1 := sqN_pos h
  have h2 : sqN d * (sqN d)⁻¹ = 1 := Rat.mul_inv_cancel _ (by intro h0; rw [h0] at h1; exact absurd h1 (by decide))
  unfold inv2
  unfold sqN at h2 ⊢
  generalize (d.re * d.re + d.im * d.im)⁻¹ = i at *
  refine q2e ?_ ?_ <;> (simp; grind)
def dl : Q2 := ⟨1 / 64, 0⟩
@[simp] theorem re_dl : dl.re = 1 / 64 := rfl
@[simp] theorem im_dl : dl.im = 0 := rfl
def rq (X : Nat → Int × Int) (j : Nat) : Q2 := ⟨((X j).1 : Rat) * p2 (-3), ((X j).2 : Rat) * p2 (-3)⟩
def zq (X : Nat → Int × Int) (i : Nat) : Q2 := ⟨((8 * (X i).1 + 1 : Int) : Rat) * p2 (-6), ((8 * (X i).2 : Int) : Rat) * p2 (-6)⟩
def dq (X : Nat → Int × Int) (i j : Nat) : Q2 := zq X i - rq X j
theorem p2m3 : p2 (-3) = 1 / 8 := by decide +kernel
theorem p2m6 : p2 (-6) = 1 / 64 := by decide +kernel
theorem dq_self (X : Nat → Int × Int) (i : Nat) : dq X i i = dl := by
  unfold dq zq rq
  refine q2e ?_ ?_
  · simp [p2m3, p2m6, Rat.intCast_add, Rat.intCast_mul]; grind
  · simp [p2m3, p2m6, Rat.intCast_add, Rat.intCast_mul]; grind
theorem dq_re (X : Nat → Int × Int) (i j : Nat) : (dq X i j).re = ((8 * ((X i).1 - (X j).1) + 1 : Int) : Rat) * (1 / 64) := by
  unfold dq zq rq
  simp [p2m3, p2m6, Rat.intCast_add, Rat.intCast_mul, Rat.intCast_sub]; grind
theorem dq_far {ls : List C2} {X : Nat → Int × Int} (h : DX ls X) {i j : Nat} (hi : i < ls.length) (hj : j < ls.length) (hij : j ≠ i) : (bL i j : Nat) ≠ 0 ∧ ((bL i j : Nat) : Rat) ≤ 64 * A (dq X i j).re := by
  obtain ⟨a1, a2⟩ := h.x i hi
  obtain ⟨b1, b2⟩ := h.x j hj
  have e : bL i j ≠ 0 ∧ bL i j ≤ (8 * ((X i).1 - (X j).1) + 1).natAbs := by
    unfold bL; split <;> omega
  refine ⟨e.1, ?_⟩
  rw [dq_re, A_intm _ (by decide +kernel)]
  have : ((bL i j : Nat) : Rat) ≤ (((8 * ((X i).1 - (X j).1) + 1).natAbs : Nat) : Rat) := by exact_mod_cast e.2
  grind
/-- The inverses. -/
def uq (X : Nat → Int × Int) (i j : Nat) : Q2 := inv2 (dq X i j)
theorem dq_pos {ls : List C2} {X : Nat → Int × Int} (h : DX ls X) {i j : Nat} (hi : i < ls.length) (hj : j < ls.length) (hij : j ≠ i) : 0 < N (dq X i j) := by
  obtain ⟨a, b⟩ := dq_far h hi hj hij
  have c := re_le_N (dq X i j)
  have hp : (1 : Rat) ≤ (bL i j : Nat) := by exact_mod_cast Nat.pos_of_ne_zero a
  grind
theorem uq_ok {ls : List C2} {X : Nat → Int × Int} (h : DX ls X) {i : Nat} (hi : i < ls.length) {j : Nat} (hj : j < ls.length) (hij : j ≠ i) : uq X i j * dq X i j = one2 ∧ N (uq X i j) ≤ ub i j ∧ N (dq X i j) * N (uq X i j) ≤ 2 := by
  have hp := dq_pos h hi hj hij
  have hm := inv2_mul hp
  obtain ⟨a, b⟩ := inv_norm hm hp
  obtain ⟨c, e⟩ := dq_far h hi hj hij
  refine ⟨hm, ?_, b⟩
  have hL : (0 : Rat) < (bL i j : Nat) := by exact_mod_cast Nat.pos_of_ne_zero c
  refine lcancel_le hL ?_
  rw [ub_mul c]
  have k := Rat.mul_le_mul_of_nonneg_left e (N_nonneg (uq X i j))
  unfold uq at *
  grind
/-- The norm of the roots, in eighths. -/
def nb (j : Nat) : Nat := if j = 0 then 20 else if j = 1 then 12 else if j = 2 then 16 else 24
theorem nb_ok {ls : List C2} {X : Nat → Int × Int} (h : DX ls X) (h4 : ls.length ≤ 4) {j : Nat} (hj : j < ls.length) : nz (X j) ≤ nb j := by
  obtain ⟨a1, a2⟩ := h.x j hj
  obtain ⟨b1, b2⟩ := h.y j hj
  unfold nz nb
  rcases (by omega : j = 0 ∨ j = 1 ∨ j = 2 ∨ j = 3) with rfl | rfl | rfl | rfl <;> (simp; omega)
def bt : Nat → Nat → Nat
  | 0, k => if k = 0 then 1 else 0
  | m + 1, k => (if k = 0 then 0 else bt m (k - 1)) + nb m * bt m k
theorem cz_bt {X : Nat → Int × Int} {n : Nat} (hX : ∀ j, j < n → nz (X j) ≤ nb j) (m k : Nat) (hm : m ≤ n) : nz (cz X m k) ≤ bt m k := by
  induction m generalizing k with
  | zero => unfold cz bt; split <;> decide
  | succ m ih =>
    unfold cz bt
    refine Nat.le_trans (nz_sub _ _) (Nat.add_le_add ?_ (Nat.le_trans (nz_mul _ _) (Nat.mul_le_mul (hX m (by omega)) (ih _ (by omega)))))
    split
    · decide
    · exact ih _ (by omega)
/-- The terms, as rational numbers. -/
def cq (X : Nat → Int × Int) (m k : Nat) : Q2 := ⟨((cz X m k).1 : Rat) * p2 (3 * ((k : Int) - (m : Int))), ((cz X m k).2 : Rat) * p2 (3 * ((k : Int) - (m : Int)))⟩
theorem cq_low (X : Nat → Int × Int) (m : Nat) : cq X (m + 1) 0 = zero2 - rq X m * cq X m 0 := by
  unfold cq rq
  rw [cz, if_pos rfl]
  have e : p2 (3 * (((0 : Nat) : Int) - ((m + 1 : Nat) : Int))) = p2 (-3) * p2 (3 * (((0 : Nat) : Int) - (m : Int))) := by rw [← p2_add]; congr 1; omega
  rw [e]
  refine q2e ?_ ?_ <;> (simp [zs, zm, Rat.intCast_sub, Rat.intCast_mul, Rat.intCast_add, Rat.intCast_neg]; grind)
theorem cq_up (X : Nat → Int × Int) (m k : Nat) : cq X (m + 1) (k + 1) = cq X m k - rq X m * cq X m (k + 1) := by
  unfold cq rq
  rw [cz, if_neg (by omega), Nat.add_sub_cancel]
  have e1 : p2 (3 * (((k + 1 : Nat) : Int) - ((m + 1 : Nat) : Int))) = p2 (3 * ((k : Int) - (m : Int))) := by congr 1; omega
  have e2 : p2 (3 * ((k : Int) - (m : Int))) = p2 (-3) * p2 (3 * (((k + 1 : Nat) : Int) - (m : Int))) := by rw [← p2_add]; congr 1; omega
  rw [e1, e2]
  refine q2e ?_ ?_ <;> (simp [zs, zm, Rat.intCast_sub, Rat.intCast_mul, Rat.intCast_add]; grind)
theorem cq_top (X : Nat → Int × Int) (m : Nat) : cq X m m = one2 := by
  unfold cq
  rw [cz_top]
  have : p2 (3 * ((m : Int) - (m : Int))) = 1 := by rw [show 3 * ((m : Int) - (m : Int)) = 0 by omega]; exact p2_zero
  rw [this]
  refine q2e ?_ ?_ <;> (simp; try decide +kernel)
end Go.Proofs.YtdnoilcfgicnnaaGreat

/- The values at the point beside a root, exactly: products of distances. Conditions: up to four roots. -/
namespace Go.Proofs.YtdnoilcfgicnnaaGreat
open Go
set_option linter.unusedSimpArgs false
set_option linter.unusedVariables false

theorem cq_same (X : Nat → Int × Int) (m : Nat) : cq X (m + 1) (m + 1) = cq X m m := (cq_top X (m + 1)).trans (cq_top X m).symm
section
variable (X : Nat → Int × Int) (i : Nat)
theorem lev1 : v1 (cq X 1 0) (cq X 1 1) (zq X i) = (VV (dq X i) 1).1 ∧ cq X 1 1 = (VV (dq X i) 1).2.1 ∧ zero2 = (VV (dq X i) 1).2.2 := by
  have e0 : cq X 0 0 = one2 := cq_top X 0
  have e1 : cq X 1 1 = one2 := cq_top X 1
  have e2 := cq_low X 0
  rw [e0] at e2
  rw [e1, e2]
  refine ⟨q2e ?_ ?_, q2e ?_ ?_, q2e ?_ ?_⟩ <;> (simp [VV, v1, dq]; try grind)
theorem lev2 : v2 (cq X 2 0) (cq X 2 1) (cq X 2 2) (zq X i) = (VV (dq X i) 2).1 ∧ v1 (cq X 2 1) (sc 2 (cq X 2 2)) (zq X i) = (VV (dq X i) 2).2.1 ∧ sc 2 (cq X 2 2) = (VV (dq X i) 2).2.2 := by
  obtain ⟨a, b, c⟩ := lev1 X i
  obtain ⟨u, v, w⟩ := up1 (cq X 1 0) (cq X 1 1) (zq X i) (rq X 1)
  rw [cq_low, cq_up X 1 0, cq_same X 1]
  refine ⟨?_, ?_, ?_⟩
  · rw [u, a]; rfl
  · rw [v, a]; conv => lhs; rw [b]
    rfl
  · rw [w]; conv => lhs; rw [b, c]
    rfl
theorem lev3 : v3 (cq X 3 0) (cq X 3 1) (cq X 3 2) (cq X 3 3) (zq X i) = (VV (dq X i) 3).1 ∧ v2 (cq X 3 1) (sc 2 (cq X 3 2)) (sc 3 (cq X 3 3)) (zq X i) = (VV (dq X i) 3).2.1 ∧
    v1 (sc 2 (cq X 3 2)) (sc 6 (cq X 3 3)) (zq X i) = (VV (dq X i) 3).2.2 := by
  obtain ⟨a, b, c⟩ := lev2 X i
  obtain ⟨u, v, w⟩ := up2 (cq X 2 0) (cq X 2 1) (cq X 2 2) (zq X i) (rq X 2)
  rw [cq_low, cq_up X 2 0, cq_up X 2 1, cq_same X 2]
  exact ⟨by rw [u, a]; rfl, by rw [v, a, b]; rfl, by rw [w, b, c]; rfl⟩
theorem lev4 : v4 (cq X 4 0) (cq X 4 1) (cq X 4 2) (cq X 4 3) (cq X 4 4) (zq X i) = (VV (dq X i) 4).1 ∧ v3 (cq X 4 1) (sc 2 (cq X 4 2)) (sc 3 (cq X 4 3)) (sc 4 (cq X 4 4)) (zq X i) = (VV (dq X i) 4).2.1 ∧
    v2 (sc 2 (cq X 4 2)) (sc 6 (cq X 4 3)) (sc 12 (cq X 4 4)) (zq X i) = (VV (dq X i) 4).2.2 := by
  obtain ⟨a, b, c⟩ := lev3 X i
  obtain ⟨u, v, w⟩ := up3 (cq X 3 0) (cq X 3 1) (cq X 3 2) (cq X 3 3) (zq X i) (rq X 3)
  rw [cq_low, cq_up X 3 0, cq_up X 3 1, cq_up X 3 2, cq_same X 3]
  exact ⟨by rw [u, a]; rfl, by rw [v, a, b]; rfl, by rw [w, b, c]; rfl⟩
end
end Go.Proofs.YtdnoilcfgicnnaaGreat

/- Values by Horner's rule at points of norm at most 193 / 64, with their errors as numbers. Conditions: the terms' norms are bounded. -/
namespace Go.Proofs.YtdnoilcfgicnnaaGreat
open Go
set_option linter.unusedSimpArgs false
set_option linter.unusedVariables false

def Ud : Rat := 1 / 16777216 + 1 / 8796093022208
theorem Ud_ok : u1 * (1 + u1) ≤ Ud ∧ Uc * (1 + 3 * u1) ≤ Ud ∧ 0 ≤ Ud ∧ Ud ≤ 1 / 1048576 := by decide +kernel
/-- A value near another one. -/
def Nr (v : C2) (V : Q2) (E : Rat) : Prop := fC v ∧ N (cv v - V) ≤ E
theorem Hs.nr {v : C2} {V : Q2} {P m t Uk E : Rat} (h : Hs v V P m t Uk) (hE : Uk * P + t ≤ E) : Nr v V E := ⟨h.f, Rat.le_trans h.err hE⟩
theorem nr_exact {v : C2} {V : Q2} (h : fC v) (e : cv v = V) : Nr v V 0 := ⟨h, by
  rw [e, show V - V = zero2 from q2e (by simp; grind) (by simp; grind), N_zero2]; exact Rat.le_refl⟩
section
variable {z : C2}
theorem chV1 (hz : fC z) (hr : N (cv z) ≤ 193 / 64) {c0 c1 : C2} (h1 : fC c1) (b1 : N (cv c1) ≤ 1) (h0 : fC c0) (b0 : N (cv c0) ≤ 9) :
    safeN [c0, c1] z ∧ Hs (nestedF [c0, c1] z) (v1 (cv c0) (cv c1) (cv z)) (481 / 32 : Rat) (769 / 64 : Rat) (p2 (-146)) Ua := by
  have z0 := hs_zero h1 rfl b1
  obtain ⟨s1, hh⟩ := hs_step z0 hz h0 hr b0 Ua_ok ⟨by decide, by decide +kernel⟩ (by decide +kernel) (by decide +kernel) (by decide +kernel)
  exact ⟨⟨s1, trivial⟩, hh.mono rfl (by decide +kernel) (by decide +kernel) (by decide +kernel)⟩
theorem chV2 (hz : fC z) (hr : N (cv z) ≤ 193 / 64) {c0 c1 c2 : C2} (h2 : fC c2) (b2 : N (cv c2) ≤ 1) (h1 : fC c1) (b1 : N (cv c1) ≤ 9) (h0 : fC c0) (b0 : N (cv c0) ≤ 30) :
    safeN [c0, c1, c2] z ∧ Hs (nestedF [c0, c1, c2] z) (v2 (cv c0) (cv c1) (cv c2) (cv z)) (151345 / 1024 : Rat) (271297 / 4096 : Rat) (p2 (-143)) Ub := by
  obtain ⟨sp, hp⟩ := chV1 hz hr h2 b2 h1 b1
  obtain ⟨s1, hh⟩ := hs_step hp hz h0 hr b0 Ub_ok ⟨Ua_ok.2.2.1, Ua_ok.2.2.2⟩ (by decide +kernel) (by decide +kernel) (by decide +kernel)
  obtain ⟨a1, _⟩ := sp
  exact ⟨⟨a1, s1, trivial⟩, hh.mono rfl (by decide +kernel) (by decide +kernel) (by decide +kernel)⟩
theorem chV3 (hz : fC z) (hr : N (cv z) ≤ 193 / 64) {c0 c1 c2 c3 : C2} (h3 : fC c3) (b3 : N (cv c3) ≤ 1) (h2 : fC c2) (b2 : N (cv c2) ≤ 9) (h1 : fC c1) (b1 : N (cv c1) ≤ 30) (h0 : fC c0) (b0 : N (cv c0) ≤ 43) :
    safeN [c0, c1, c2, c3] z ∧ Hs (nestedF [c0, c1, c2, c3] z) (v3 (cv c0) (cv c1) (cv c2) (cv c3) (cv z)) (116415587 / 131072 : Rat) (63632513 / 262144 : Rat) (p2 (-140)) Uc := by
  obtain ⟨sp, hp⟩ := chV2 hz hr h3 b3 h2 b2 h1 b1
  obtain ⟨s1, hh⟩ := hs_step hp hz h0 hr b0 Uc_ok ⟨Ub_ok.2.2.1, Ub_ok.2.2.2⟩ (by decide +kernel) (by decide +kernel) (by decide +kernel)
  obtain ⟨a1, a2, _⟩ := sp
  exact ⟨⟨a1, a2, s1, trivial⟩, hh.mono rfl (by decide +kernel) (by decide +kernel) (by decide +kernel)⟩
theorem chV4 (hz : fC z) (hr : N (cv z) ≤ 193 / 64) {c0 c1 c2 c3 c4 : C2} (h4 : fC c4) (b4 : N (cv c4) ≤ 1) (h3 : fC c3) (b3 : N (cv c3) ≤ 9) (h2 : fC c2) (b2 : N (cv c2) ≤ 30) (h1 : fC c1) (b1 : N (cv c1) ≤ 43) (h0 : fC c0) (b0 : N (cv c0) ≤ 23) :
    safeN [c0, c1, c2, c3, c4] z ∧ Hs (nestedF [c0, c1, c2, c3, c4] z) (v4 (cv c0) (cv c1) (cv c2) (cv c3) (cv c4) (cv z)) (8735555321 / 2097152 : Rat) (12666950977 / 16777216 : Rat) (p2 (-137)) Ud := by
  obtain ⟨sp, hp⟩ := chV3 hz hr h4 b4 h3 b3 h2 b2 h1 b1
  obtain ⟨s1, hh⟩ := hs_step hp hz h0 hr b0 Ud_ok ⟨Uc_ok.2.2.1, Uc_ok.2.2.2⟩ (by decide +kernel) (by decide +kernel) (by decide +kernel)
  obtain ⟨a1, a2, a3, _⟩ := sp
  exact ⟨⟨a1, a2, a3, s1, trivial⟩, hh.mono rfl (by decide +kernel) (by decide +kernel) (by decide +kernel)⟩
theorem chS1 (hz : fC z) (hr : N (cv z) ≤ 193 / 64) {c0 c1 : C2} (h1 : fC c1) (b1 : N (cv c1) ≤ 4) (h0 : fC c0) (b0 : N (cv c0) ≤ 27) :
    safeN [c0, c1] z ∧ Hs (nestedF [c0, c1] z) (v1 (cv c0) (cv c1) (cv z)) (409 / 8 : Rat) (625 / 16 : Rat) (p2 (-146)) Ua := by
  have z0 := hs_zero h1 rfl b1
  obtain ⟨s1, hh⟩ := hs_step z0 hz h0 hr b0 Ua_ok ⟨by decide, by decide +kernel⟩ (by decide +kernel) (by decide +kernel) (by decide +kernel)
  exact ⟨⟨s1, trivial⟩, hh.mono rfl (by decide +kernel) (by decide +kernel) (by decide +kernel)⟩
theorem chS2 (hz : fC z) (hr : N (cv z) ≤ 193 / 64) {c0 c1 c2 : C2} (h2 : fC c2) (b2 : N (cv c2) ≤ 4) (h1 : fC c1) (b1 : N (cv c1) ≤ 27) (h0 : fC c0) (b0 : N (cv c0) ≤ 60) :
    safeN [c0, c1, c2] z ∧ Hs (nestedF [c0, c1, c2] z) (v2 (cv c0) (cv c1) (cv c2) (cv z)) (115141 / 256 : Rat) (182065 / 1024 : Rat) (p2 (-143)) Ub := by
  obtain ⟨sp, hp⟩ := chS1 hz hr h2 b2 h1 b1
  obtain ⟨s1, hh⟩ := hs_step hp hz h0 hr b0 Ub_ok ⟨Ua_ok.2.2.1, Ua_ok.2.2.2⟩ (by decide +kernel) (by decide +kernel) (by decide +kernel)
  obtain ⟨a1, _⟩ := sp
  exact ⟨⟨a1, s1, trivial⟩, hh.mono rfl (by decide +kernel) (by decide +kernel) (by decide +kernel)⟩
theorem chS3 (hz : fC z) (hr : N (cv z) ≤ 193 / 64) {c0 c1 c2 c3 : C2} (h3 : fC c3) (b3 : N (cv c3) ≤ 4) (h2 : fC c2) (b2 : N (cv c2) ≤ 27) (h1 : fC c1) (b1 : N (cv c1) ≤ 60) (h0 : fC c0) (b0 : N (cv c0) ≤ 43) :
    safeN [c0, c1, c2, c3] z ∧ Hs (nestedF [c0, c1, c2, c3] z) (v3 (cv c0) (cv c1) (cv c2) (cv c3) (cv z)) (80991995 / 32768 : Rat) (37956593 / 65536 : Rat) (p2 (-140)) Uc := by
  obtain ⟨sp, hp⟩ := chS2 hz hr h3 b3 h2 b2 h1 b1
  obtain ⟨s1, hh⟩ := hs_step hp hz h0 hr b0 Uc_ok ⟨Ub_ok.2.2.1, Ub_ok.2.2.2⟩ (by decide +kernel) (by decide +kernel) (by decide +kernel)
  obtain ⟨a1, a2, _⟩ := sp
  exact ⟨⟨a1, a2, s1, trivial⟩, hh.mono rfl (by decide +kernel) (by decide +kernel) (by decide +kernel)⟩
theorem chT1 (hz : fC z) (hr : N (cv z) ≤ 193 / 64) {c0 c1 : C2} (h1 : fC c1) (b1 : N (cv c1) ≤ 12) (h0 : fC c0) (b0 : N (cv c0) ≤ 54) :
    safeN [c0, c1] z ∧ Hs (nestedF [c0, c1] z) (v1 (cv c0) (cv c1) (cv z)) (1011 / 8 : Rat) (1443 / 16 : Rat) (p2 (-146)) Ua := by
  have z0 := hs_zero h1 rfl b1
  obtain ⟨s1, hh⟩ := hs_step z0 hz h0 hr b0 Ua_ok ⟨by decide, by decide +kernel⟩ (by decide +kernel) (by decide +kernel) (by decide +kernel)
  exact ⟨⟨s1, trivial⟩, hh.mono rfl (by decide +kernel) (by decide +kernel) (by decide +kernel)⟩
theorem chT2 (hz : fC z) (hr : N (cv z) ≤ 193 / 64) {c0 c1 c2 : C2} (h2 : fC c2) (b2 : N (cv c2) ≤ 12) (h1 : fC c1) (b1 : N (cv c1) ≤ 54) (h0 : fC c0) (b0 : N (cv c0) ≤ 60) :
    safeN [c0, c1, c2] z ∧ Hs (nestedF [c0, c1, c2] z) (v2 (cv c0) (cv c1) (cv c2) (cv z)) (252171 / 256 : Rat) (339939 / 1024 : Rat) (p2 (-143)) Ub := by
  obtain ⟨sp, hp⟩ := chT1 hz hr h2 b2 h1 b1
  obtain ⟨s1, hh⟩ := hs_step hp hz h0 hr b0 Ub_ok ⟨Ua_ok.2.2.1, Ua_ok.2.2.2⟩ (by decide +kernel) (by decide +kernel) (by decide +kernel)
  obtain ⟨a1, _⟩ := sp
  exact ⟨⟨a1, s1, trivial⟩, hh.mono rfl (by decide +kernel) (by decide +kernel) (by decide +kernel)⟩
end
end Go.Proofs.YtdnoilcfgicnnaaGreat
