/- A quadratic's step of the reckoning: the computed Newton step is safe and stays in the next ball. Conditions: the terms are what the numbers say. -/
import Derived.Test.YtalfkkagbajjcaaZ12
import Derived.Test.YtalfkkagbajjcaaZ6
namespace Go.Proofs.Ytalfkkagbajjcaa
set_option linter.unusedSimpArgs false
set_option linter.unusedVariables false

/-- The numbers of a quadratic's step. -/
structure QuaT (B M H OFF KS CZ bE c E1 E0 F0 : Nat) (k : Nat → Nat → Nat → Bool) (x y R : Nat) : Prop where
  ex : ∃ w Z V S sa sb Sb na nb n U qa qb s q es ev dd core : Nat,
    (w = ab x 17592186044416 + ab y 17592186044416 + R ∧ w ≤ 2199023255552) ∧ Z = x + (y * B + CZ) ∧ V = ((Z + bE) * Z + c) % M ∧ S = (Z + bE + Z + OFF) % M ∧
    sa = S % B ∧ sb = S / B ∧ Sb = sa + KS - sb * B ∧ na = ab sa H ∧ nb = ab sb H ∧ n = na * na + nb * nb ∧ U = (V * Sb + OFF) % M ∧
    (qa = (U % B + n <<< 44 - H) / n ∧ qb = (U / B + n <<< 44 - H) / n ∧ qa ≠ 0 ∧ qb ≠ 0 ∧ qa ≤ x + 17592186044416 ∧ qb ≤ y + 17592186044416) ∧ s = n / (na + nb) ∧
    q = ab qa 17592186044416 + ab qb 17592186044416 + 2 ∧
    es = (4 * w + F0) >>> 24 ∧ ev = ((4 * w + E1) * w + E0) >>> 24 ∧ dd = R + R + (es + 1) ∧ dd < s ∧
    core = ((R + es + 1) * R + (ev + 1) + q * dd) / (s - dd) + 1 ∧
    k (x + 17592186044416 - qa) (y + 17592186044416 - qb) (core + 6 + (2 * (q + core + R) + w) >>> 23) = true

theorem quaK_true {B M H OFF KS CZ bE c E1 E0 F0 : Nat} {k : Nat → Nat → Nat → Bool} {x y R : Nat}
    (h : quaK B M H OFF KS CZ bE c E1 E0 F0 k x y R = true) : QuaT B M H OFF KS CZ bE c E1 E0 F0 k x y R := by
  unfold quaK q0 at h
  obtain ⟨g1, h⟩ := cond_true h
  unfold q0b q0c q1 q2 q2b q3 q4 at h
  obtain ⟨g2, h⟩ := cond_false h
  obtain ⟨g3, h⟩ := cond_false h
  obtain ⟨g4, h⟩ := cond_true h
  obtain ⟨g5, h⟩ := cond_true h
  unfold q5 at h
  obtain ⟨g6, h⟩ := cond_false h
  unfold c8 at h
  exact ⟨_, _, _, _, _, _, _, _, _, _, _, _, _, _, _, _, _, _, _, ⟨rfl, Nat.le_of_ble_eq_true g1⟩, rfl, rfl, rfl, rfl, rfl, rfl, rfl, rfl, rfl, rfl, ⟨rfl, rfl, Nat.ne_of_beq_eq_false g2, Nat.ne_of_beq_eq_false g3, Nat.le_of_ble_eq_true g4, Nat.le_of_ble_eq_true g5⟩, rfl, rfl, rfl, rfl, rfl, lt_of_ble_false g6, rfl, h⟩

def wX (X Y b1 b2 cx : Int) : Int := gx (X + b1) (Y + b2) X Y + cx
def wY (X Y b1 b2 cy : Int) : Int := gy (X + b1) (Y + b2) X Y + cy
def rX (X b1 : Int) : Int := X + b1 + X

section
variable {B M H OFF KS CZ bE c E1 E0 F0 : Nat} {k : Nat → Nat → Nat → Bool} {x y R : Nat} {B1 B2 Cx Cy : Int}
theorem qua_int (h : QuaT B M H OFF KS CZ bE c E1 E0 F0 k x y R) (K : Cst B M H OFF KS CZ)
    (hbE : Rs B bE B1 B2) (hc : Rs B c Cx Cy)
    (w1 : -(2 : Int) ^ 36 ≤ B1 ∧ B1 ≤ (2 : Int) ^ 36) (w2 : -(2 : Int) ^ 36 ≤ B2 ∧ B2 ≤ (2 : Int) ^ 36) (w3 : -(2 : Int) ^ 70 ≤ Cx ∧ Cx ≤ (2 : Int) ^ 70) (w4 : -(2 : Int) ^ 70 ≤ Cy ∧ Cy ≤ (2 : Int) ^ 70) :
    ∃ (X Y fx fy : Int) (w n N1 s q es ev dd core x' y' : Nat), (x : Int) = X + 17592186044416 ∧ (y : Int) = Y + 17592186044416 ∧
      (w : Int) = X.natAbs + Y.natAbs + R ∧ w ≤ 2199023255552 ∧
      (n : Int) = rX X B1 * rX X B1 + rX Y B2 * rX Y B2 ∧ 0 < n ∧ (N1 : Int) = (rX X B1).natAbs + (rX Y B2).natAbs ∧ s * N1 ≤ n ∧
      (fx * n ≤ wX X Y B1 B2 Cx * rX X B1 + wY X Y B1 B2 Cy * rX Y B2 ∧ wX X Y B1 B2 Cx * rX X B1 + wY X Y B1 B2 Cy * rX Y B2 < (fx + 1) * n) ∧
      (fy * n ≤ wY X Y B1 B2 Cy * rX X B1 - wX X Y B1 B2 Cx * rX Y B2 ∧ wY X Y B1 B2 Cy * rX X B1 - wX X Y B1 B2 Cx * rX Y B2 < (fy + 1) * n) ∧
      (q : Int) = fx.natAbs + fy.natAbs + 2 ∧
      es = (4 * w + F0) / 2 ^ 24 ∧ ev = ((4 * w + E1) * w + E0) / 2 ^ 24 ∧ dd = R + R + (es + 1) ∧ dd < s ∧
      core = ((R + es + 1) * R + (ev + 1) + q * dd) / (s - dd) + 1 ∧
      (x' : Int) = X - fx + 17592186044416 ∧ (y' : Int) = Y - fy + 17592186044416 ∧ k x' y' (core + 6 + (2 * (q + core + R) + w) / 2 ^ 23) = true := by
  obtain ⟨w, Z, V, S, sa, sb, Sb, na, nb, n, U, qa, qb, s, q, es, ev, dd, core, ⟨hw, hw2⟩, hZ, hV, hS, hsa, hsb, hSb, hna, hnb, hn, hU, ⟨hqa, hqb, qa0, qb0, qa1, qb1⟩, hs, hq, hes, hev, hdd, hds, hcore, hk⟩ := h.ex
  obtain ⟨X, hX⟩ : ∃ X : Int, (x : Int) = X + 17592186044416 := ⟨x - 17592186044416, by omega⟩
  obtain ⟨Y, hY⟩ : ∃ Y : Int, (y : Int) = Y + 17592186044416 := ⟨y - 17592186044416, by omega⟩
  have hwI : (w : Int) = X.natAbs + Y.natAbs + R := by
    have a1 := ab_val x 17592186044416
    have a2 := ab_val y 17592186044416
    rw [hw]
    omega
  have bX : -(2 : Int) ^ 41 ≤ X ∧ X ≤ (2 : Int) ^ 41 := by
    have : (2 : Int) ^ 41 = 2199023255552 := by decide
    rw [this]; omega
  have bY : -(2 : Int) ^ 41 ≤ Y ∧ Y ≤ (2 : Int) ^ 41 := by
    have : (2 : Int) ^ 41 = 2199023255552 := by decide
    rw [this]; omega
  have rZ : Rs B Z X Y := by
    obtain ⟨l, hl⟩ := K.hZ
    refine ⟨l, ?_⟩
    rw [hZ, Int.natCast_add, Int.natCast_add, Int.natCast_mul, hl, hX, hY]; grind
  have rP := rZ.add hbE
  have rV := ((rP.mul rZ).add hc).mod K.hM
  rw [← hV] at rV
  have rS := ((rP.add rZ).add K.hO).mod K.hM
  rw [← hS] at rS
  have z36 : (2 : Int) ^ 36 ≤ 2 ^ 41 := by decide
  have bP1 : -(2 : Int) ^ 42 ≤ X + B1 ∧ X + B1 ≤ (2 : Int) ^ 42 := by
    have e1 : (2 : Int) ^ 42 = 2 ^ 41 + 2 ^ 41 := by decide
    rw [e1]; generalize (2 : Int) ^ 41 = e at *; omega
  have bP2 : -(2 : Int) ^ 42 ≤ Y + B2 ∧ Y + B2 ≤ (2 : Int) ^ 42 := by
    have e1 : (2 : Int) ^ 42 = 2 ^ 41 + 2 ^ 41 := by decide
    rw [e1]; generalize (2 : Int) ^ 41 = e at *; omega
  have bSx : -(2 : Int) ^ 88 ≤ rX X B1 ∧ rX X B1 ≤ (2 : Int) ^ 88 := by
    have e1 : (2 : Int) ^ 42 + 2 ^ 41 ≤ 2 ^ 88 := by decide
    unfold rX
    generalize (2 : Int) ^ 88 = f at *
    omega
  have bSy : -(2 : Int) ^ 88 ≤ rX Y B2 ∧ rX Y B2 ≤ (2 : Int) ^ 88 := by
    have e1 : (2 : Int) ^ 42 + 2 ^ 41 ≤ 2 ^ 88 := by decide
    unfold rX
    generalize (2 : Int) ^ 88 = f at *
    omega
  have bm := g_bound bP1 bP2 bX bY
  have bVx : -(2 : Int) ^ 128 ≤ wX X Y B1 B2 Cx ∧ wX X Y B1 B2 Cx ≤ (2 : Int) ^ 128 := by
    have e1 : 2 * ((2 : Int) ^ 42 * 2 ^ 41) + 2 ^ 70 ≤ 2 ^ 128 := by decide
    unfold wX
    generalize (2 : Int) ^ 128 = f at *
    omega
  have bVy : -(2 : Int) ^ 128 ≤ wY X Y B1 B2 Cy ∧ wY X Y B1 B2 Cy ≤ (2 : Int) ^ 128 := by
    have e1 : 2 * ((2 : Int) ^ 42 * 2 ^ 41) + 2 ^ 70 ≤ 2 ^ 128 := by decide
    unfold wY
    generalize (2 : Int) ^ 128 = f at *
    omega
  have hH := K.hH
  have hBI : 2 * (H : Int) = (B : Int) := by exact_mod_cast K.hB
  have M0 : M = B * B + 1 := K.hM
  have hSlt : S < B * B + 1 := by rw [hS, ← M0]; exact Nat.mod_lt _ (by omega)
  have rS' : Rs B S (rX X B1 + H) (rX Y B2 + H) := by
    obtain ⟨l, hl⟩ := rS
    refine ⟨l, ?_⟩
    rw [hl]; unfold rX; grind
  have e88 : (2 : Int) ^ 88 < 2 ^ 220 := by decide
  obtain ⟨dx, dy⟩ := rS'.decode hSlt (by generalize (2 : Int) ^ 220 = f at *; omega) (by generalize (2 : Int) ^ 220 = f at *; omega)
  rw [← hsa] at dx
  rw [← hsb] at dy
  generalize hsx : rX X B1 = sx at *
  generalize hsy : rX Y B2 = sy at *
  have rV' : Rs B V (wX X Y B1 B2 Cx) (wY X Y B1 B2 Cy) := by
    obtain ⟨l, hl⟩ := rV
    exact ⟨l, hl⟩
  generalize hvx : wX X Y B1 B2 Cx = vx at *
  generalize hvy : wY X Y B1 B2 Cy = vy at *
  have rSb : Rs B Sb sx (-sy) := by
    refine ⟨1, ?_⟩
    have hle : sb * B ≤ sa + KS := by
      have a1 : (sb : Int) ≤ B := by generalize (2 : Int) ^ 220 = f at *; omega
      have a2 : (sb : Int) * B ≤ B * B := Int.mul_le_mul_of_nonneg_right a1 (by omega)
      have a3 : (H : Int) ≤ H * B := by
        have : (H : Int) * 1 ≤ H * B := Int.mul_le_mul_of_nonneg_left (by omega) (by omega)
        omega
      have a4 := K.hK
      have : ((sb * B : Nat) : Int) ≤ ((sa + KS : Nat) : Int) := by rw [Int.natCast_mul, Int.natCast_add, a4]; omega
      exact_mod_cast this
    have : (Sb : Int) = (sa : Int) + KS - sb * B := by rw [hSb]; rw [Int.natCast_sub hle, Int.natCast_add, Int.natCast_mul]
    rw [this, K.hK, dx, dy]; grind
  have hnI : (n : Int) = sx * sx + sy * sy := by
    have a1 : (na : Int) = sx.natAbs := by rw [hna, ab_val]; congr 2; omega
    have a2 : (nb : Int) = sy.natAbs := by rw [hnb, ab_val]; congr 2; omega
    rw [hn, Int.natCast_add, Int.natCast_mul, Int.natCast_mul, a1, a2, Int.natAbs_mul_self' sx, Int.natAbs_mul_self' sy]
  have hN1 : ((na + nb : Nat) : Int) = sx.natAbs + sy.natAbs := by
    have a1 : (na : Int) = sx.natAbs := by rw [hna, ab_val]; congr 2; omega
    have a2 : (nb : Int) = sy.natAbs := by rw [hnb, ab_val]; congr 2; omega
    rw [Int.natCast_add, a1, a2]
  have rU := ((rV'.mul rSb).add K.hO).mod K.hM
  rw [← hU] at rU
  have hUlt : U < B * B + 1 := by rw [hU, ← M0]; exact Nat.mod_lt _ (by omega)
  have g1 := mulb bVx bSx
  have g2 := mulb bVy bSy
  have g3 := mulb bVy bSx
  have g4 := mulb bVx bSy
  have e216 : 2 * ((2 : Int) ^ 128 * 2 ^ 88) < 2 ^ 220 := by decide
  have rU' : Rs B U (vx * sx + vy * sy + H) (vy * sx - vx * sy + H) := by
    obtain ⟨l, hl⟩ := rU
    refine ⟨l, ?_⟩
    rw [hl]; grind
  obtain ⟨ux, uy⟩ := rU'.decode hUlt (by generalize (2 : Int) ^ 220 = f at *; generalize (2 : Int) ^ 128 * 2 ^ 88 = g at *; omega) (by generalize (2 : Int) ^ 220 = f at *; generalize (2 : Int) ^ 128 * 2 ^ 88 = g at *; omega)
  have n0 : 0 < n := by
    rcases Nat.eq_zero_or_pos n with h | h
    · exfalso; apply qa0; rw [hqa, h, Nat.div_zero]
    · exact h
  have fX := quo_floor n0 ux hqa qa0
  have fY := quo_floor n0 uy hqb qb0
  subst hsx hsy hvx hvy
  refine ⟨X, Y, (qa : Int) - 17592186044416, (qb : Int) - 17592186044416, w, n, na + nb, s, q, es, ev, dd, core, x + 17592186044416 - qa, y + 17592186044416 - qb, hX, hY, hwI, hw2, hnI, n0, hN1, ?_, fX, fY, ?_, ?_, ?_, hdd, hds, hcore, ?_, ?_, ?_⟩
  · rw [hs]; exact Nat.div_mul_le_self _ _
  · rw [hq]
    have a1 := ab_val qa 17592186044416
    have a2 := ab_val qb 17592186044416
    omega
  · rw [hes, Nat.shiftRight_eq_div_pow]
  · rw [hev, Nat.shiftRight_eq_div_pow]
  · omega
  · omega
  · rw [← Nat.shiftRight_eq_div_pow]; exact hk
end

section
variable {e : Rat}
theorem quaV_int (X Y b1 b2 cx cy : Int) (e : Rat) : quaV ⟨(X : Rat) * e, (Y : Rat) * e⟩ ⟨(b1 : Rat) * e, (b2 : Rat) * e⟩ ⟨(cx : Rat) * (e * e), (cy : Rat) * (e * e)⟩ =
    ⟨((wX X Y b1 b2 cx : Int) : Rat) * (e * e), ((wY X Y b1 b2 cy : Int) : Rat) * (e * e)⟩ := by
  apply q2e
  · simp only [quaV, one2, wX, gx, gy, re_add, im_add, re_mul, im_mul, Rat.intCast_add, Rat.intCast_mul, Rat.intCast_sub]; grind
  · simp only [quaV, one2, wY, gx, gy, re_add, im_add, re_mul, im_mul, Rat.intCast_add, Rat.intCast_mul, Rat.intCast_sub]; grind
theorem quaS_int (X Y b1 b2 : Int) (e : Rat) : quaS ⟨(X : Rat) * e, (Y : Rat) * e⟩ ⟨(b1 : Rat) * e, (b2 : Rat) * e⟩ = ⟨((rX X b1 : Int) : Rat) * e, ((rX Y b2 : Int) : Rat) * e⟩ := by
  apply q2e
  · simp only [quaS, two2, rX, re_add, im_add, re_mul, im_mul, Rat.intCast_add, Rat.intCast_mul, Rat.intCast_sub]; grind
  · simp only [quaS, two2, rX, re_add, im_add, re_mul, im_mul, Rat.intCast_add, Rat.intCast_mul, Rat.intCast_sub]; grind
theorem evq_pure {r b c Ee1 Ee0 T : Rat} (r0 : 0 ≤ r) (r1 : r ≤ 512) (b0 : 0 ≤ b) (b1 : b ≤ 32) (c1 : c ≤ 32) (h1 : 3 * b + 1 / 64 ≤ Ee1) (h0 : c + 1 / 64 ≤ Ee0)
    (hT : (4 * r + Ee1) * r + Ee0 ≤ T * 16777216) : Ub * (4 * 1 * (r * r) + 3 * (b * r) + c) + (6 * (e1 * r) + 3 * e1) ≤ T := by
  have k1 : Ub = 1 / 16777216 + 1 / 35184372088832 := rfl
  have k2 : e1 ≤ 1 / 1152921504606846976 := by decide +kernel
  have k3 := e1_pos
  rw [k1]
  have g0 := Rat.mul_le_mul_of_nonneg_right k2 r0
  have g1 := Rat.mul_le_mul_of_nonneg_right r1 r0
  have g2 := Rat.mul_le_mul_of_nonneg_right b1 r0
  have g5 := Rat.mul_le_mul_of_nonneg_right h1 r0
  generalize e1 = t at *
  grind
theorem esq_pure {r b Ff0 T : Rat} (r0 : 0 ≤ r) (r1 : r ≤ 512) (b0 : 0 ≤ b) (b1 : b ≤ 32) (h0 : b + 1 / 64 ≤ Ff0) (hT : 4 * r + Ff0 ≤ T * 16777216) : Ua * (2 * 2 * r + b) + 3 * e1 ≤ T := by
  have k1 : Ua = 1 / 16777216 + 1 / 70368744177664 := rfl
  have k2 : e1 ≤ 1 / 1152921504606846976 := by decide +kernel
  rw [k1]
  generalize e1 = t at *
  grind
theorem evq_nat {w E1 E0 ev : Nat} (e0 : 0 < e) (hev : ev = ((4 * w + E1) * w + E0) / 2 ^ 24) :
    (4 * ((w : Rat) * e) + (E1 : Rat) * e) * ((w : Rat) * e) + (E0 : Rat) * (e * e) ≤ (((ev : Rat) + 1) * (e * e)) * 16777216 := by
  have a2 : (((4 * w + E1) * w + E0 : Nat) : Rat) ≤ ((((4 * w + E1) * w + E0) / 2 ^ 24 : Nat) + 1 : Rat) * ((2 ^ 24 : Nat) : Rat) := div_lt _ (by decide)
  rw [← hev] at a2
  simp only [Rat.natCast_add, Rat.natCast_mul] at a2
  rw [show ((4 : Nat) : Rat) = 4 from rfl, show ((2 ^ 24 : Nat) : Rat) = 16777216 from by decide +kernel] at a2
  have a3 := Rat.mul_le_mul_of_nonneg_right a2 (show 0 ≤ e * e from Rat.mul_nonneg (Rat.le_of_lt e0) (Rat.le_of_lt e0))
  clear hev a2 e0
  grind
theorem esq_nat {w F0 es : Nat} (e0 : 0 < e) (hes : es = (4 * w + F0) / 2 ^ 24) : 4 * ((w : Rat) * e) + (F0 : Rat) * e ≤ (((es : Rat) + 1) * e) * 16777216 := by
  have a2 : ((4 * w + F0 : Nat) : Rat) ≤ (((4 * w + F0) / 2 ^ 24 : Nat) + 1 : Rat) * ((2 ^ 24 : Nat) : Rat) := div_lt _ (by decide)
  rw [← hes] at a2
  simp only [Rat.natCast_add, Rat.natCast_mul] at a2
  rw [show ((4 : Nat) : Rat) = 4 from rfl, show ((2 ^ 24 : Nat) : Rat) = 16777216 from by decide +kernel] at a2
  have a3 := Rat.mul_le_mul_of_nonneg_right a2 (Rat.le_of_lt e0)
  clear hes a2 e0
  grind
theorem bvq_pure {v V : Q2} {r be ga : Rat} (r0 : 0 ≤ r) (r1 : r ≤ 512) (be0 : 0 ≤ be) (be1 : be ≤ 32) (ga1 : ga ≤ 32)
    (a1 : N V ≤ 1 * (r * r) + be * r + ga) (a3 : N (v - V) ≤ Ub * (4 * 1 * (r * r) + 3 * (be * r) + ga) + (6 * (e1 * r) + 3 * e1)) (P0 : 0 ≤ 4 * 1 * (r * r) + 3 * (be * r) + ga) : N v < p2 126 := by
  have a2 := N_tri v V
  have a4 : Ub ≤ 1 := by decide +kernel
  have a5 := Rat.mul_le_mul_of_nonneg_right a4 P0
  have a6 : e1 ≤ 1 := by decide +kernel
  have a7 : (100000000000 : Rat) ≤ p2 126 := by decide +kernel
  have g0 := mul_le r1 r1 r0 (by decide +kernel)
  have g3 := mul_le be1 r1 r0 (by decide +kernel)
  have g4 := Rat.mul_le_mul_of_nonneg_right a6 r0
  generalize Ub = U at *
  generalize e1 = t1 at *
  generalize p2 126 = t2 at *
  clear a4
  grind
theorem bsq_pure {v V : Q2} {r be : Rat} (r0 : 0 ≤ r) (r1 : r ≤ 512) (be1 : be ≤ 32)
    (a1 : N V ≤ 2 * r + be) (a3 : N (v - V) ≤ Ua * (2 * 2 * r + be) + 3 * e1) (P0 : 0 ≤ 2 * 2 * r + be) : N v < p2 100 := by
  have a2 := N_tri v V
  have a4 : Ua ≤ 1 := by decide +kernel
  have a5 := Rat.mul_le_mul_of_nonneg_right a4 P0
  have a6 : e1 ≤ 1 := by decide +kernel
  have a7 : (100000000000 : Rat) ≤ p2 100 := by decide +kernel
  generalize Ua = U at *
  generalize e1 = t1 at *
  generalize p2 100 = t2 at *
  clear a4
  grind
theorem hgq_pure {s N1 n : Nat} (e0 : 0 < e) (hs : s * N1 ≤ n) : (s : Rat) * e * ((N1 : Rat) * e) ≤ (n : Rat) * (e * e) := by
  have a1 : ((s * N1 : Nat) : Rat) ≤ (n : Rat) := by exact_mod_cast hs
  rw [Rat.natCast_mul] at a1
  have a2 := Rat.mul_le_mul_of_nonneg_right a1 (show 0 ≤ e * e from Rat.mul_nonneg (Rat.le_of_lt e0) (Rat.le_of_lt e0))
  have a3 : (s : Rat) * (N1 : Rat) * (e * e) = (s : Rat) * e * ((N1 : Rat) * e) := by grind
  rw [a3] at a2
  exact a2
theorem ddq_pure {R es dd : Nat} (hdd : dd = R + R + (es + 1)) : 2 * ((R : Rat) * e) + ((es : Rat) + 1) * e ≤ (dd : Rat) * e := by
  have : (dd : Rat) = (R : Rat) + (R : Rat) + ((es : Rat) + 1) := by rw [hdd, Rat.natCast_add, Rat.natCast_add, Rat.natCast_add]; rfl
  rw [this]
  grind
theorem numq_pure {R es ev q dd s core : Nat} (e0 : 0 < e) (hds : dd < s) (hcore : core = ((R + es + 1) * R + (ev + 1) + q * dd) / (s - dd) + 1) :
    (R : Rat) * e * ((R : Rat) * e) + (R : Rat) * e * (((es : Rat) + 1) * e) + ((ev : Rat) + 1) * (e * e) + (q : Rat) * e * ((dd : Rat) * e) ≤ (core : Rat) * e * ((s : Rat) * e - (dd : Rat) * e) := by
  have a3 := core_pure hcore hds
  simp only [Rat.natCast_add, Rat.natCast_mul] at a3
  rw [show ((1 : Nat) : Rat) = 1 from rfl] at a3
  clear hcore hds
  generalize (R : Rat) = R at *
  generalize (es : Rat) = es at *
  generalize (ev : Rat) = ev at *
  generalize (q : Rat) = q at *
  generalize (dd : Rat) = dd at *
  generalize (s : Rat) = s at *
  generalize (core : Rat) = core at *
  have a6 := Rat.mul_le_mul_of_nonneg_right a3 (show 0 ≤ e * e from Rat.mul_nonneg (Rat.le_of_lt e0) (Rat.le_of_lt e0))
  clear a3
  grind
end

section
variable {B M H OFF KS CZ bE c E1 E0 F0 : Nat} {k : Nat → Nat → Nat → Bool} {x y R : Nat} {B1 B2 Cx Cy : Int} {Cw Bw Lw z : C2} {be ga e : Rat}
theorem qua_step (e0 : 0 < e) (e32 : e * 4294967296 = 1) (he1 : 3 * e1 ≤ e) (he40 : p2 (-40) ≤ e) (hk0 : KGood k) (h : quaK B M H OFF KS CZ bE c E1 E0 F0 k x y R = true) (K : Cst B M H OFF KS CZ)
    (hbE : Rs B bE B1 B2) (hc : Rs B c Cx Cy)
    (w1 : -(2 : Int) ^ 36 ≤ B1 ∧ B1 ≤ (2 : Int) ^ 36) (w2 : -(2 : Int) ^ 36 ≤ B2 ∧ B2 ≤ (2 : Int) ^ 36) (w3 : -(2 : Int) ^ 70 ≤ Cx ∧ Cx ≤ (2 : Int) ^ 70) (w4 : -(2 : Int) ^ 70 ≤ Cy ∧ Cy ≤ (2 : Int) ^ 70)
    (fCw : fC Cw) (fB : fC Bw) (fL : fC Lw) (vL : cv Lw = one2) (vB : cv Bw = ⟨(B1 : Rat) * e, (B2 : Rat) * e⟩) (vC : cv Cw = ⟨(Cx : Rat) * (e * e), (Cy : Rat) * (e * e)⟩)
    (nB : N (cv Bw) ≤ be) (nC : N (cv Cw) ≤ ga) (be1 : be ≤ 16) (ga1 : ga ≤ 32)
    (hE1 : 3 * be + 1 / 64 ≤ (E1 : Rat) * e) (hE0 : ga + 1 / 64 ≤ (E0 : Rat) * (e * e)) (hF0 : be + 1 / 64 ≤ (F0 : Rat) * e)
    (hz : fC z) (hb : N (cv z - cen e x y) ≤ (R : Rat) * e) :
    safeStep [Cw, Bw, Lw] z ∧ ∃ z', stepF [Cw, Bw, Lw] z = (z', true) ∧ fC z' ∧ ∃ x' y' R', k x' y' R' = true ∧ N (cv z' - cen e x' y') ≤ (R' : Rat) * e := by
  obtain ⟨X, Y, fx, fy, w, n, N1, s, q, es, ev, dd, core, x', y', hX, hY, hw, hw2, hn, n0, hN1, hs, hfx, hfy, hq, hes, hev, hdd, hds, hcore, hx', hy', hk⟩ := qua_int (quaK_true h) K hbE hc w1 w2 w3 w4
  clear h K hbE hc w1 w2 w3 w4
  have be0 : 0 ≤ be := Rat.le_trans (N_nonneg _) nB
  have be32 : be ≤ 32 := Rat.le_trans be1 (by decide +kernel)
  have e0' := Rat.le_of_lt e0
  rw [cen_is hX hY] at hb
  have wr : (w : Rat) = ((X.natAbs : Nat) : Rat) + ((Y.natAbs : Nat) : Rat) + (R : Rat) := by
    have : w = X.natAbs + Y.natAbs + R := by omega
    rw [this, Rat.natCast_add, Rat.natCast_add]
  have hr := hr_le hb (n_cen X Y e0') wr
  have wR : (w : Rat) ≤ 2199023255552 := by exact_mod_cast hw2
  have r1 := e_512 e0 e32 wR
  have r0 : 0 ≤ (w : Rat) * e := Rat.le_trans (N_nonneg _) hr
  have r41 : (w : Rat) * e ≤ p2 41 := Rat.le_trans r1 (by decide +kernel)
  obtain ⟨hrt, hv, B', L', hS, hSv, hB', hL', eB, eL⟩ := slope3 fCw fB fL vL (p100_of (Rat.le_trans nB be32))
  have nB' : N (cv B') ≤ be := by rw [eB]; exact nB
  have no : N one2 ≤ 1 := by decide +kernel
  have nt : N two2 ≤ 2 := by decide +kernel
  obtain ⟨s1, H1⟩ := eval3 hz hr r41 fL vL no (by decide +kernel) fB nB be32 fCw nC ga1
  obtain ⟨s2, H2⟩ := eval2 hz hr r41 hL' eL nt (by decide +kernel) hB' nB' be32
  have fv := H1.f
  have fs := H2.f
  have bv := bvq_pure r0 r1 be0 be32 ga1 H1.le H1.err H1.P0
  have bs := bsq_pure r0 r1 be32 H2.le H2.err H2.P0
  have hvE : N (cv (nestedF [Cw, Bw, Lw] z) - quaV (cv z) (cv Bw) (cv Cw)) ≤ ((ev : Rat) + 1) * (e * e) := Rat.le_trans H1.err (evq_pure r0 r1 be0 be32 ga1 hE1 hE0 (evq_nat e0 hev))
  have hsE : N (cv (nestedF [B', L'] z) - quaS (cv z) (cv Bw)) ≤ ((es : Rat) + 1) * e := by
    have a6 : quaS (cv z) (cv Bw) = two2 * cv z + cv B' := by rw [eB]; rfl
    rw [a6]
    exact Rat.le_trans H2.err (esq_pure r0 r1 be0 be32 hF0 (esq_nat e0 hes))
  clear H1 H2 hE1 hE0 hF0 hes hev
  obtain ⟨Q0, hQ0, nQ0, dQ0⟩ := quo_cen e e0 hn n0 hfx hfy hq
  have cV := quaV_int X Y B1 B2 Cx Cy e
  have cS := quaS_int X Y B1 B2 e
  rw [← vB] at cS
  rw [← vB, ← vC] at cV
  rw [← cV, ← cS] at hQ0
  have n0r : (0 : Rat) < (n : Rat) := by exact_mod_cast n0
  have nS : N (quaS ⟨(X : Rat) * e, (Y : Rat) * e⟩ (cv Bw)) = (N1 : Rat) * e := by rw [cS]; exact nS_pure _ e0' hN1
  have sS : sqN (quaS ⟨(X : Rat) * e, (Y : Rat) * e⟩ (cv Bw)) = (n : Rat) * (e * e) := by rw [cS]; exact sS_pure _ hn
  have N1p := pos_of_sq sS (Rat.mul_pos n0r (Rat.mul_pos e0 e0))
  have hg : (s : Rat) * e * N (quaS ⟨(X : Rat) * e, (Y : Rat) * e⟩ (cv Bw)) ≤ sqN (quaS ⟨(X : Rat) * e, (Y : Rat) * e⟩ (cv Bw)) := by
    rw [nS, sS]; exact hgq_pure e0 hs
  have hdd' := ddq_pure (e := e) hdd
  obtain ⟨hlow, _⟩ := ball2_s hb hsE hg N1p hdd'
  have hgd1 : ((dd : Rat) + 1) ≤ (s : Rat) := by
    have h2 : ((dd + 1 : Nat) : Rat) ≤ (s : Rat) := by exact_mod_cast (show dd + 1 ≤ s from hds)
    rw [Rat.natCast_add] at h2; exact h2
  have hgd : (dd : Rat) * e < (s : Rat) * e := Rat.mul_lt_mul_of_pos_right (by exact_mod_cast hds) e0
  have hlow2 : e ≤ N (cv (nestedF [B', L'] z)) := low_pure e0' hgd1 hlow
  obtain ⟨q', hq'⟩ := quo_ex (cv (nestedF [Cw, Bw, Lw] z)) (lt_of_e e0 hlow2)
  obtain ⟨hcore', _⟩ := ball2 hb hvE hsE hq' hQ0 nQ0 hg N1p hdd' hgd (numq_pure e0 hds hcore) (Rat.le_refl)
  have nq' := nq_pure nQ0 hb hcore'
  have hk1 := hk0 _ _ _ hk
  have nq42 : N q' ≤ p2 42 := q42_pure e0 e32 (size_pure hw hw2 hq hx' hy' hk1) nq'
  obtain ⟨k3, z', k4, k5, k6⟩ := step_res hrt hv hS hSv hz fv fs s1 s2 bv bs (Rat.le_trans he40 hlow2) (Rat.le_trans hr r41) hq' nq42
  refine ⟨k3, z', k4, k5, x', y', _, hk, ?_⟩
  have hc' : cen e x' y' = (⟨(X : Rat) * e, (Y : Rat) * e⟩ : Q2) - ⟨(fx : Rat) * e, (fy : Rat) * e⟩ := by rw [cen_is hx' hy']; exact cen_sub X Y fx fy
  rw [hc']
  exact end_pure e0 k6 hcore' dQ0 hr nq' he1 rfl
end
end Go.Proofs.Ytalfkkagbajjcaa

/- Polynomials of one, two and three drawn roots: their terms are exact. Conditions: roots in eighths, of small parts. -/
namespace Go.Proofs.Ytalfkkagbajjcaa
set_option linter.unusedSimpArgs false
set_option linter.unusedVariables false
open Go

/-- A complex number of two float32 worth (a + b i) / 2 ^ j. -/
def Gr (w : C2) (a b : Int) (j : Nat) : Prop := fC w ∧ cv w = ⟨(a : Rat) * p2 (-(j : Int)), (b : Rat) * p2 (-(j : Int))⟩
theorem A_dy (a : Int) (j : Nat) : A ((a : Rat) * p2 (-(j : Int))) = ((a.natAbs : Nat) : Rat) * p2 (-(j : Int)) := A_intm a (Rat.le_of_lt (p2_pos _))
theorem dy_lt {a : Int} {j : Nat} {n : Nat} (h : a.natAbs < 2 ^ n) : A ((a : Rat) * p2 (-(j : Int))) < p2 (n : Int) := by
  rw [A_dy, p2_nat]
  have h1 : p2 (-(j : Int)) ≤ 1 := p2_small (by omega)
  have h2 : ((a.natAbs : Nat) : Rat) < ((2 ^ n : Nat) : Rat) := by exact_mod_cast h
  have h3 : (0 : Rat) ≤ ((a.natAbs : Nat) : Rat) := by exact_mod_cast Nat.zero_le _
  have := Rat.mul_le_mul_of_nonneg_left h1 h3
  generalize p2 (-(j : Int)) = x at *
  grind
theorem exact32 {r : Nat} {q : Rat} {a : Int} {j : Nat} (h : Res .f32 r q) (hq : q = (a : Rat) * p2 (-(j : Int))) (ha : a.natAbs < 2 ^ 24) (hj : j ≤ 100) : vN .f32 r = q :=
  h.2.2 a.natAbs (-(j : Int)) (by rw [hq, A_dy]) ha (by have : lK .f32 = -149 := rfl; omega)
theorem exact64 {r : Nat} {q : Rat} {a : Int} {j : Nat} (h : Res .f64 r q) (hq : q = (a : Rat) * p2 (-(j : Int))) (ha : a.natAbs < 2 ^ 24) (hj : j ≤ 100) : vN .f64 r = q :=
  h.2.2 a.natAbs (-(j : Int)) (by rw [hq, A_dy]) (Nat.lt_trans ha (by decide)) (by have : lK .f64 = -1074 := rfl; omega)

theorem part_exact {P Q : Nat} {p q : Rat} {a : Int} {j : Nat} (hP : fN .f64 P = true) (hp : vN .f64 P = p) (hQ : fN .f64 Q = true) (hq : vN .f64 Q = q) (ha : a.natAbs < 2 ^ 24) (hj : j ≤ 100) :
    (p + q = (a : Rat) * p2 (-(j : Int)) → fit1 (fop .add .f64 P Q) ∧ fN .f32 (nw (fop .add .f64 P Q)) = true ∧ vN .f32 (nw (fop .add .f64 P Q)) = p + q) ∧
    (p - q = (a : Rat) * p2 (-(j : Int)) → fit1 (fop .sub .f64 P Q) ∧ fN .f32 (nw (fop .sub .f64 P Q)) = true ∧ vN .f32 (nw (fop .sub .f64 P Q)) = p - q) := by
  have hlt := dy_lt (j := j) ha
  have h24 : p2 ((24 : Nat) : Int) ≤ p2 1023 := p2_mono (by decide)
  have h25 : p2 ((24 : Nat) : Int) ≤ p2 127 := p2_mono (by decide)
  constructor
  · intro h
    have R1 := fop_add_res (k := .f64) hP hQ (by rw [hp, hq, h]; show _ < p2 1023; grind)
    rw [hp, hq] at R1
    have v1 := exact64 R1 h ha hj
    obtain ⟨f1, R2⟩ := nw_ok R1.1 (by rw [v1, h]; grind)
    rw [v1] at R2
    exact ⟨f1, R2.1, exact32 R2 h ha hj⟩
  · intro h
    have R1 := fop_sub_res (k := .f64) hP hQ (by rw [hp, hq, h]; show _ < p2 1023; grind)
    rw [hp, hq] at R1
    have v1 := exact64 R1 h ha hj
    obtain ⟨f1, R2⟩ := nw_ok R1.1 (by rw [v1, h]; grind)
    rw [v1] at R2
    exact ⟨f1, R2.1, exact32 R2 h ha hj⟩

theorem Gr.parts {w : C2} {a b : Int} {j : Nat} (h : Gr w a b j) : (fN .f32 w.1 = true ∧ vN .f32 w.1 = (a : Rat) * p2 (-(j : Int))) ∧ fN .f32 w.2 = true ∧ vN .f32 w.2 = (b : Rat) * p2 (-(j : Int)) :=
  ⟨⟨h.1.1, congrArg Q2.re h.2⟩, h.1.2, congrArg Q2.im h.2⟩
theorem Gr.mul {x y : C2} {a b c d : Int} {i j : Nat} (hx : Gr x a b i) (hy : Gr y c d j) (ha : a.natAbs < 2 ^ 11) (hb : b.natAbs < 2 ^ 11) (hc : c.natAbs < 2 ^ 11) (hd : d.natAbs < 2 ^ 11) (hij : i + j ≤ 100) :
    fit2 (timesF x y) ∧ Gr (mulC x y) (a * c - b * d) (a * d + b * c) (i + j) := by
  obtain ⟨⟨x1, x2⟩, x3, x4⟩ := hx.parts
  obtain ⟨⟨y1, y2⟩, y3, y4⟩ := hy.parts
  have b11 : p2 ((11 : Nat) : Int) ≤ p2 200 := p2_mono (by decide)
  have l1 := dy_lt (j := i) ha
  have l2 := dy_lt (j := i) hb
  have l3 := dy_lt (j := j) hc
  have l4 := dy_lt (j := j) hd
  rw [← x2] at l1
  rw [← x4] at l2
  rw [← y2] at l3
  rw [← y4] at l4
  obtain ⟨p1, p2'⟩ := prod_exact x1 y1 (by grind) (by grind)
  obtain ⟨q1, q2⟩ := prod_exact x3 y3 (by grind) (by grind)
  obtain ⟨r1, r2⟩ := prod_exact x1 y3 (by grind) (by grind)
  obtain ⟨s1, s2⟩ := prod_exact x3 y1 (by grind) (by grind)
  have hp : p2 (-((i + j : Nat) : Int)) = p2 (-(i : Int)) * p2 (-(j : Int)) := by rw [← p2_add]; congr 1; omega
  have bnd : ∀ {u v : Int}, u.natAbs < 2 ^ 11 → v.natAbs < 2 ^ 11 → (u * v).natAbs < 2 ^ 22 := by
    intro u v h1 h2
    rw [Int.natAbs_mul]
    exact Nat.lt_of_lt_of_le (Nat.mul_lt_mul_of_lt_of_lt h1 h2) (by decide)
  have n1 : (a * c - b * d).natAbs < 2 ^ 24 := by have := bnd ha hc; have := bnd hb hd; omega
  have n2 : (a * d + b * c).natAbs < 2 ^ 24 := by have := bnd ha hd; have := bnd hb hc; omega
  have e1' : vN .f32 x.1 * vN .f32 y.1 - vN .f32 x.2 * vN .f32 y.2 = ((a * c - b * d : Int) : Rat) * p2 (-((i + j : Nat) : Int)) := by
    rw [x2, x4, y2, y4, hp, Rat.intCast_sub, Rat.intCast_mul, Rat.intCast_mul]; grind
  have e2' : vN .f32 x.1 * vN .f32 y.2 + vN .f32 x.2 * vN .f32 y.1 = ((a * d + b * c : Int) : Rat) * p2 (-((i + j : Nat) : Int)) := by
    rw [x2, x4, y2, y4, hp, Rat.intCast_add, Rat.intCast_mul, Rat.intCast_mul]; grind
  obtain ⟨f1, g1, h1⟩ := (part_exact p1 p2' q1 q2 n1 hij).2 e1'
  obtain ⟨f2, g2, h2⟩ := (part_exact r1 r2 s1 s2 n2 hij).1 e2'
  exact ⟨⟨f1, f2⟩, ⟨g1, g2⟩, q2e (h1.trans e1') (h2.trans e2')⟩
theorem Gr.sub {x y : C2} {a b c d : Int} {j : Nat} (hx : Gr x a b j) (hy : Gr y c d j) (ha : (a - c).natAbs < 2 ^ 24) (hb : (b - d).natAbs < 2 ^ 24) (hj : j ≤ 100) : Gr (subC x y) (a - c) (b - d) j := by
  obtain ⟨⟨x1, x2⟩, x3, x4⟩ := hx.parts
  obtain ⟨⟨y1, y2⟩, y3, y4⟩ := hy.parts
  have h25 : p2 ((24 : Nat) : Int) ≤ p2 127 := p2_mono (by decide)
  have e1' : vN .f32 x.1 - vN .f32 y.1 = ((a - c : Int) : Rat) * p2 (-(j : Int)) := by rw [x2, y2, Rat.intCast_sub]; grind
  have e2' : vN .f32 x.2 - vN .f32 y.2 = ((b - d : Int) : Rat) * p2 (-(j : Int)) := by rw [x4, y4, Rat.intCast_sub]; grind
  have l1 := dy_lt (j := j) ha
  have l2 := dy_lt (j := j) hb
  have R1 := fop_sub_res (k := .f32) x1 y1 (by rw [e1']; show _ < p2 127; grind)
  have R2 := fop_sub_res (k := .f32) x3 y3 (by rw [e2']; show _ < p2 127; grind)
  exact ⟨⟨R1.1, R2.1⟩, q2e ((exact32 R1 e1' ha hj).trans e1') ((exact32 R2 e2' hb hj).trans e2')⟩
theorem Gr.lift {w : C2} {a b : Int} {j : Nat} (h : Gr w a b j) (k : Nat) : Gr w (a * 2 ^ k) (b * 2 ^ k) (j + k) := by
  refine ⟨h.1, ?_⟩
  rw [h.2]
  have hp : p2 (-(j : Int)) = ((2 ^ k : Nat) : Rat) * p2 (-((j + k : Nat) : Int)) := by rw [← p2_nat, ← p2_add]; congr 1; omega
  have hk : (((2 : Int) ^ k : Int) : Rat) = ((2 ^ k : Nat) : Rat) := by rw [← Rat.intCast_natCast]; congr 1
  rw [hp]
  exact q2e (by show (a : Rat) * _ = ((a * 2 ^ k : Int) : Rat) * _; rw [Rat.intCast_mul, hk]; grind) (by show (b : Rat) * _ = ((b * 2 ^ k : Int) : Rat) * _; rw [Rat.intCast_mul, hk]; grind)
theorem Gr.zero (j : Nat) : Gr (0, 0) 0 0 j := by
  have h0 : FloatKind.f32.decode 0 = .number false 0 (-149) := by decide +kernel
  have h2 : vN .f32 0 = 0 := by unfold vN; rw [h0]; decide +kernel
  refine ⟨fC0.1, q2e ?_ ?_⟩
  · show vN .f32 0 = ((0 : Int) : Rat) * _; rw [h2, show ((0 : Int) : Rat) = 0 from rfl]; try grind
  · show vN .f32 0 = ((0 : Int) : Rat) * _; rw [h2, show ((0 : Int) : Rat) = 0 from rfl]; try grind
theorem Gr.one : Gr (nc (1065353216, 0)) 1 0 0 := by
  have h1 : nc (1065353216, 0) = (1065353216, 0) := by decide +kernel
  have hd : FloatKind.f32.decode 1065353216 = .number false 8388608 (-23) := by decide +kernel
  rw [h1]
  refine ⟨⟨by unfold fN; rw [hd]; rfl, fC0.1.2⟩, q2e ?_ ?_⟩
  · show vN .f32 1065353216 = _; unfold vN; rw [hd]; decide +kernel
  · have := congrArg Q2.im (Gr.zero 0).2
    exact this
theorem Gr.cast {w : C2} {a b c d : Int} {j : Nat} (h : Gr w a b j) (h1 : a = c) (h2 : b = d) : Gr w c d j := by subst h1 h2; exact h
theorem Gr.zero_to {w : C2} {j : Nat} (h : Gr w 0 0 j) (i : Nat) : Gr w 0 0 i := by
  refine ⟨h.1, h.2.trans (q2e ?_ ?_)⟩ <;> (show ((0 : Int) : Rat) * _ = ((0 : Int) : Rat) * _; rw [show ((0 : Int) : Rat) = 0 from rfl]; try grind)
end Go.Proofs.Ytalfkkagbajjcaa

/- The terms of the polynomials of one, two and three roots. Conditions: roots in eighths, parts at most 16 eighths. -/
namespace Go.Proofs.Ytalfkkagbajjcaa
set_option linter.unusedSimpArgs false
set_option linter.unusedVariables false
open Go

abbrev oneW : C2 := nc (1065353216, 0)
theorem rootG0 (r : C2) (c : List C2) : rootG r c 0 = subC (0, 0) (mulC r (catF c 0)) := rfl

theorem Gr.mulz {r : C2} {x y : Int} {i : Nat} (h : Gr r x y i) (hx : x.natAbs ≤ 16) (hy : y.natAbs ≤ 16) (hi : i ≤ 50) (j : Nat) : fit2 (timesF r (0, 0)) ∧ Gr (mulC r (0, 0)) 0 0 j := by
  obtain ⟨a, b⟩ := h.mul (Gr.zero 0) (by omega) (by omega) (by decide) (by decide) (by omega)
  exact ⟨a, (b.cast (c := 0) (d := 0) (by simp) (by simp)).zero_to j⟩

/-- One root. -/
theorem roots1 {L : List C2} {x1 y1 : Int} (h1 : Gr (L.getD 0 (0, 0)) x1 y1 3) (b1 : x1.natAbs ≤ 16 ∧ y1.natAbs ≤ 16) :
    ∃ T0 T1, rootsL L 1 = [T0, T1] ∧ Gr T0 (-x1) (-y1) 3 ∧ Gr T1 1 0 0 ∧ ∀ k : Nat, k < 2 → fit2 (timesF (L.getD 0 (0, 0)) (catF (rootsL L 0) k)) := by
  obtain ⟨f0, g0⟩ := h1.mul Gr.one (by omega) (by omega) (by decide) (by decide) (by decide)
  obtain ⟨f1, g1⟩ := h1.mulz b1.1 b1.2 (by decide) 0
  refine ⟨subC (0, 0) (mulC (L.getD 0 (0, 0)) oneW), subC oneW (mulC (L.getD 0 (0, 0)) (0, 0)), rfl, ?_, ?_, ?_⟩
  · exact ((Gr.zero 3).sub g0 (by omega) (by omega) (by decide)).cast (by omega) (by omega)
  · exact (Gr.one.sub g1 (by decide) (by decide) (by decide)).cast (by decide) (by decide)
  · intro k hk
    rcases (by omega : k = 0 ∨ k = 1) with rfl | rfl
    · exact f0
    · exact f1
/-- Two roots. -/
theorem roots2 {L : List C2} {x1 y1 x2 y2 : Int} (h1 : Gr (L.getD 0 (0, 0)) x1 y1 3) (h2 : Gr (L.getD 1 (0, 0)) x2 y2 3) (b1 : x1.natAbs ≤ 16 ∧ y1.natAbs ≤ 16) (b2 : x2.natAbs ≤ 16 ∧ y2.natAbs ≤ 16) :
    ∃ T0 T1 T2, rootsL L 2 = [T0, T1, T2] ∧ Gr T0 (x1 * x2 - y1 * y2) (x1 * y2 + y1 * x2) 6 ∧ Gr T1 (-(x1 + x2)) (-(y1 + y2)) 3 ∧ Gr T2 1 0 0 ∧
      ∀ k : Nat, k < 3 → fit2 (timesF (L.getD 1 (0, 0)) (catF (rootsL L 1) k)) := by
  obtain ⟨U0, U1, hU, u0, u1', _⟩ := roots1 h1 b1
  obtain ⟨f0, g0⟩ := h2.mul u0 (by omega) (by omega) (by omega) (by omega) (by decide)
  obtain ⟨f1, g1⟩ := h2.mul u1' (by omega) (by omega) (by decide) (by decide) (by decide)
  obtain ⟨f2, g2⟩ := h2.mulz b2.1 b2.2 (by decide) 0
  have q1 := mulb (a := x1) (b := x2) (U := 16) (V := 16) (by omega) (by omega)
  have q2 := mulb (a := y1) (b := y2) (U := 16) (V := 16) (by omega) (by omega)
  have q3 := mulb (a := x1) (b := y2) (U := 16) (V := 16) (by omega) (by omega)
  have q4 := mulb (a := y1) (b := x2) (U := 16) (V := 16) (by omega) (by omega)
  have g0' : Gr (mulC (L.getD 1 (0, 0)) U0) (-(x1 * x2 - y1 * y2)) (-(x1 * y2 + y1 * x2)) 6 := g0.cast (by grind) (by grind)
  refine ⟨subC (0, 0) (mulC (L.getD 1 (0, 0)) U0), subC U0 (mulC (L.getD 1 (0, 0)) U1), subC U1 (mulC (L.getD 1 (0, 0)) (0, 0)), ?_, ?_, ?_, ?_, ?_⟩
  · rw [rootsL_succ, hU]; rfl
  · exact ((Gr.zero 6).sub g0' (by omega) (by omega) (by decide)).cast (by omega) (by omega)
  · exact (u0.sub g1 (by omega) (by omega) (by decide)).cast (by omega) (by omega)
  · exact (u1'.sub g2 (by decide) (by decide) (by decide)).cast (by decide) (by decide)
  · intro k hk
    rw [hU]
    rcases (by omega : k = 0 ∨ k = 1 ∨ k = 2) with rfl | rfl | rfl
    · exact f0
    · exact f1
    · exact f2
/-- Three roots. -/
theorem roots3 {L : List C2} {x1 y1 x2 y2 x3 y3 : Int} (h1 : Gr (L.getD 0 (0, 0)) x1 y1 3) (h2 : Gr (L.getD 1 (0, 0)) x2 y2 3) (h3 : Gr (L.getD 2 (0, 0)) x3 y3 3) (b1 : x1.natAbs ≤ 16 ∧ y1.natAbs ≤ 16) (b2 : x2.natAbs ≤ 16 ∧ y2.natAbs ≤ 16) (b3 : x3.natAbs ≤ 16 ∧ y3.natAbs ≤ 16) :
    ∃ T0 T1 T2 T3, rootsL L 3 = [T0, T1, T2, T3] ∧ Gr T0 (-((x1 * x2 - y1 * y2) * x3 - (x1 * y2 + y1 * x2) * y3)) (-((x1 * x2 - y1 * y2) * y3 + (x1 * y2 + y1 * x2) * x3)) 9 ∧
      Gr T1 (x1 * x2 - y1 * y2 + ((x1 + x2) * x3 - (y1 + y2) * y3)) (x1 * y2 + y1 * x2 + ((x1 + x2) * y3 + (y1 + y2) * x3)) 6 ∧ Gr T2 (-(x1 + x2 + x3)) (-(y1 + y2 + y3)) 3 ∧ Gr T3 1 0 0 ∧
      ∀ k : Nat, k < 4 → fit2 (timesF (L.getD 2 (0, 0)) (catF (rootsL L 2) k)) := by
  obtain ⟨U0, U1, U2, hU, u0, u1', u2, _⟩ := roots2 h1 h2 b1 b2
  have q1 := mulb (a := x1) (b := x2) (U := 16) (V := 16) (by omega) (by omega)
  have q2 := mulb (a := y1) (b := y2) (U := 16) (V := 16) (by omega) (by omega)
  have q3 := mulb (a := x1) (b := y2) (U := 16) (V := 16) (by omega) (by omega)
  have q4 := mulb (a := y1) (b := x2) (U := 16) (V := 16) (by omega) (by omega)
  generalize hp : x1 * x2 - y1 * y2 = p at *
  generalize hq : x1 * y2 + y1 * x2 = q at *
  have bp : -512 ≤ p ∧ p ≤ 512 := by omega
  have bq : -512 ≤ q ∧ q ≤ 512 := by omega
  obtain ⟨f0, g0⟩ := h3.mul u0 (by omega) (by omega) (by omega) (by omega) (by decide)
  obtain ⟨f1, g1⟩ := h3.mul u1' (by omega) (by omega) (by omega) (by omega) (by decide)
  obtain ⟨f2, g2⟩ := h3.mul u2 (by omega) (by omega) (by decide) (by decide) (by decide)
  obtain ⟨f3, g3⟩ := h3.mulz b3.1 b3.2 (by decide) 0
  have r1 := mulb (a := p) (b := x3) (U := 512) (V := 16) (by omega) (by omega)
  have r2 := mulb (a := q) (b := y3) (U := 512) (V := 16) (by omega) (by omega)
  have r3 := mulb (a := p) (b := y3) (U := 512) (V := 16) (by omega) (by omega)
  have r4 := mulb (a := q) (b := x3) (U := 512) (V := 16) (by omega) (by omega)
  have s1 := mulb (a := x1 + x2) (b := x3) (U := 32) (V := 16) (by omega) (by omega)
  have s2 := mulb (a := y1 + y2) (b := y3) (U := 32) (V := 16) (by omega) (by omega)
  have s3 := mulb (a := x1 + x2) (b := y3) (U := 32) (V := 16) (by omega) (by omega)
  have s4 := mulb (a := y1 + y2) (b := x3) (U := 32) (V := 16) (by omega) (by omega)
  have g0' : Gr (mulC (L.getD 2 (0, 0)) U0) (p * x3 - q * y3) (p * y3 + q * x3) 9 := g0.cast (by grind) (by grind)
  have g1' : Gr (mulC (L.getD 2 (0, 0)) U1) (-((x1 + x2) * x3 - (y1 + y2) * y3)) (-((x1 + x2) * y3 + (y1 + y2) * x3)) 6 := g1.cast (by grind) (by grind)
  refine ⟨subC (0, 0) (mulC (L.getD 2 (0, 0)) U0), subC U0 (mulC (L.getD 2 (0, 0)) U1), subC U1 (mulC (L.getD 2 (0, 0)) U2), subC U2 (mulC (L.getD 2 (0, 0)) (0, 0)), ?_, ?_, ?_, ?_, ?_, ?_⟩
  · rw [rootsL_succ, hU]; rfl
  · exact ((Gr.zero 9).sub g0' (by omega) (by omega) (by decide)).cast (by omega) (by omega)
  · exact (u0.sub g1' (by omega) (by omega) (by decide)).cast (by omega) (by omega)
  · exact (u1'.sub g2 (by omega) (by omega) (by decide)).cast (by omega) (by omega)
  · exact (u2.sub g3 (by decide) (by decide) (by decide)).cast (by decide) (by decide)
  · intro k hk
    rw [hU]
    rcases (by omega : k = 0 ∨ k = 1 ∨ k = 2 ∨ k = 3) with rfl | rfl | rfl | rfl
    · exact f0
    · exact f1
    · exact f2
    · exact f3
end Go.Proofs.Ytalfkkagbajjcaa

/- Cubics of three drawn roots: six Newton steps are safe from the points of the grid. Conditions: the reckoning answers true. -/
namespace Go.Proofs.Ytalfkkagbajjcaa
set_option linter.unusedSimpArgs false
set_option linter.unusedVariables false
open Go

theorem all_true {f : Nat → Bool} : ∀ n, (Nat.rec true (fun k r => cond (f k) r false) n : Bool) = true → ∀ j, j < n → f j = true := by
  intro n
  induction n with
  | zero => intro _ j h; omega
  | succ n ih =>
    intro h j hj
    have h' : cond (f n) (Nat.rec true (fun k r => cond (f k) r false) n : Bool) false = true := h
    obtain ⟨h1, h2⟩ := cond_true h'
    rcases Nat.lt_or_ge j n with h3 | h3
    · exact ih h2 j h3
    · rw [show j = n by omega]; exact h1
theorem all85_true {f : Nat → Bool} (h : all85 f = true) {j : Nat} (hj : j < 85) : f j = true := all_true 85 h j hj

/-- The grid's points in the reckoning. -/
def gpx (i : Nat) : Nat := match i with | 0 => 17583596109824 | 1 => 17589367472128 | 2 => 17595138834432 | _ => 17600910196736
def gpy (i : Nat) : Nat := match i with | 0 => 17583327674368 | 1 => 17589143776256 | 2 => 17594959878144 | _ => 17600775979008
theorem row_true {f : Nat → Nat → Nat → Bool} {y : Nat} (h : rowK f y = true) {i : Nat} (hi : i < 4) : f (gpx i) y 0 = true := by
  unfold rowK at h
  simp only [Bool.and_eq_true] at h
  obtain ⟨h0, h1, h2, h3⟩ := h
  rcases (by omega : i = 0 ∨ i = 1 ∨ i = 2 ∨ i = 3) with rfl | rfl | rfl | rfl
  · exact h0
  · exact h1
  · exact h2
  · exact h3
theorem grid_true {f : Nat → Nat → Nat → Bool} (h : gridK f = true) {i k : Nat} (hi : i < 4) (hk : k < 4) : f (gpx i) (gpy k) 0 = true := by
  unfold gridK at h
  simp only [Bool.and_eq_true] at h
  obtain ⟨h0, h1, h2, h3⟩ := h
  rcases (by omega : k = 0 ∨ k = 1 ∨ k = 2 ∨ k = 3) with rfl | rfl | rfl | rfl
  · exact row_true h0 hi
  · exact row_true h1 hi
  · exact row_true h2 hi
  · exact row_true h3 hi
/-- A point of the grid. -/
def GridPt (z : C2) : Prop := fC z ∧ ∃ i k, i < 4 ∧ k < 4 ∧ cv z = cen ee (gpx i) (gpy k)
theorem GridPt.le {z : C2} (h : GridPt z) : N (cv z) ≤ p2 41 := by
  obtain ⟨_, i, k, hi, hk, hz⟩ := h
  rw [hz]
  rcases (by omega : i = 0 ∨ i = 1 ∨ i = 2 ∨ i = 3) with rfl | rfl | rfl | rfl <;> rcases (by omega : k = 0 ∨ k = 1 ∨ k = 2 ∨ k = 3) with rfl | rfl | rfl | rfl <;> decide +kernel
theorem GridPt.ball {z : C2} {x y : Nat} (h : cv z = cen ee x y) : N (cv z - cen ee x y) ≤ ((0 : Nat) : Rat) * ee := by
  rw [h]
  have : cen ee x y - cen ee x y = ⟨0, 0⟩ := q2e (by simp only [re_sub]; grind) (by simp only [im_sub]; grind)
  rw [this]; decide +kernel

theorem KGood_cub {B M H OFF KS CZ b1 b2 bE c cH d E2 E1 E0 F1 F0 : Nat} (k : Nat → Nat → Nat → Bool) : KGood (cubK B M H OFF KS CZ b1 b2 bE c cH d E2 E1 E0 F1 F0 k) := by
  intro x y R h
  obtain ⟨w, _, _, _, _, _, _, _, _, _, _, _, _, _, _, _, _, _, _, _, ⟨hw, hw2⟩, _⟩ := (cubK_true h).ex
  omega
theorem KGood_qua {B M H OFF KS CZ bE c E1 E0 F0 : Nat} (k : Nat → Nat → Nat → Bool) : KGood (quaK B M H OFF KS CZ bE c E1 E0 F0 k) := by
  intro x y R h
  obtain ⟨w, _, _, _, _, _, _, _, _, _, _, _, _, _, _, _, _, _, _, ⟨hw, hw2⟩, _⟩ := (quaK_true h).ex
  omega

/-- The constants. -/
structure Cst2 (B M H OFF KS CZ C16 : Nat) : Prop extends Cst B M H OFF KS CZ where
  h16 : Rs B C16 (-16) (-16)
theorem cst_ok : Cst2 26959946667150639794667015087019630673637144422540572481103610249216 726838724295606890549323807888004534353641360687318060281490199180639288113397923326191050713763565560762521606266177933534601628614657 13479973333575319897333507543509815336818572211270286240551805124608 363419362147803445274661903944002267176820680343659030140745099590333124030032536982992858864425292595718079375344359253007852619431936 1090258086443410335823985711832006801530462041030977090422235298770945452196763309669389242563101838525806963837187996614061350637797377 726838724295606890549323807888004534353641360687318059807205801664592151658451168730605380146769708370298771300647913837104830437392385 1453677448591213781098647615776009068707282721374636120562980398360847217080121436415667429186134817030746848901771706707371545493241842 where
  hB := by decide +kernel
  hH := by decide +kernel
  hM := by decide +kernel
  hO := ⟨0, by decide +kernel⟩
  hK := by decide +kernel
  hZ := ⟨1, by decide +kernel⟩
  h16 := ⟨2, by decide +kernel⟩

theorem Rs.shl {B n : Nat} {a b : Int} (h : Rs B n a b) (j : Nat) : Rs B (n <<< j) (a * 2 ^ j) (b * 2 ^ j) := by
  have h2 : Rs B (2 ^ j) (2 ^ j) 0 := ⟨0, by rw [Int.natCast_pow]; simp⟩
  have := h.mul h2
  rw [Nat.shiftLeft_eq]
  obtain ⟨l, hl⟩ := this
  exact ⟨l, by rw [hl]; simp⟩
theorem Rs.neg {B M n : Nat} {a b : Int} (h : Rs B n a b) (hM : M = B * B + 1) (hn : n < M) : Rs B (M - n) (-a) (-b) := by
  obtain ⟨l, hl⟩ := h
  refine ⟨1 - l, ?_⟩
  rw [Int.natCast_sub (Nat.le_of_lt hn), hl, hM, Int.natCast_add, Int.natCast_mul]
  grind
theorem Rs.root {B C16 : Nat} (h : Rs B C16 (-16) (-16)) {X Y : Nat} {x y : Int} (hx : (X : Int) = x + 16) (hy : (Y : Int) = y + 16) : Rs B (rootE B C16 X Y) x y := by
  obtain ⟨l, hl⟩ := h
  refine ⟨l, ?_⟩
  show ((X + (Y * B + C16) : Nat) : Int) = _
  rw [Int.natCast_add, Int.natCast_add, Int.natCast_mul, hl, hx, hy]
  grind
theorem Rs.off {B M H OFF n : Nat} {a b : Int} (h : Rs B n a b) (hO : Rs B OFF H H) (hM : M = B * B + 1) (hB : 2 * H = B) (hH : (2 : Int) ^ 220 ≤ H) (ha : a.natAbs < 2 ^ 100) (hb : b.natAbs < 2 ^ 100) :
    (((n + OFF) % M % B : Nat) : Int) = a + H ∧ (((n + OFF) % M / B : Nat) : Int) = b + H := by
  have r := (h.add hO).mod hM
  have hlt : (n + OFF) % M < B * B + 1 := by rw [← hM]; exact Nat.mod_lt _ (by omega)
  have e : (2 : Int) ^ 100 < 2 ^ 220 := by decide
  have ha' : (a.natAbs : Int) < (2 : Int) ^ 100 := by
    have : ((a.natAbs : Nat) : Int) < ((2 ^ 100 : Nat) : Int) := by exact_mod_cast ha
    rw [Int.natCast_pow] at this; exact this
  have hb' : (b.natAbs : Int) < (2 : Int) ^ 100 := by
    have : ((b.natAbs : Nat) : Int) < ((2 ^ 100 : Nat) : Int) := by exact_mod_cast hb
    rw [Int.natCast_pow] at this; exact this
  refine r.decode hlt ?_ ?_
  · generalize (2 : Int) ^ 220 = f at *; generalize (2 : Int) ^ 100 = g at *; omega
  · generalize (2 : Int) ^ 220 = f at *; generalize (2 : Int) ^ 100 = g at *; omega
end Go.Proofs.Ytalfkkagbajjcaa

/- Cubics of three drawn roots whose second term has a part 0: safe from the points of the grid, by the reckoning. Conditions: the reckoning answers true. -/
namespace Go.Proofs.Ytalfkkagbajjcaa
set_option linter.unusedSimpArgs false
set_option linter.unusedVariables false
open Go

theorem dyc {a : Int} {m : Nat} {E : Rat} {j : Int} (h : ((m : Nat) : Rat) * E = p2 j) : (a : Rat) * p2 j = ((a * (m : Int) : Int) : Rat) * E := by
  rw [← h, Rat.intCast_mul, Rat.intCast_natCast]; grind
theorem ee_u : ((536870912 : Nat) : Rat) * ee = p2 (-3) ∧ ((288230376151711744 : Nat) : Rat) * (ee * ee) = p2 (-6) ∧ ((154742504910672534362390528 : Nat) : Rat) * (ee * ee * ee) = p2 (-9) := by decide +kernel
theorem ee_small : 3 * e1 ≤ ee ∧ p2 (-40) ≤ ee := by decide +kernel
theorem gr_norm {w : C2} {a b : Int} {j n : Nat} (h : Gr w a b j) (hn : (n : Int) = a.natAbs + b.natAbs) : N (cv w) = (n : Rat) * p2 (-(j : Int)) := by
  rw [h.2]
  exact nS_pure _ (Rat.le_of_lt (p2_pos _)) hn

theorem E2_ok (be : Nat) : 5 * ((be : Rat) * p2 (-3)) + 1 / 64 ≤ ((be * 2684354560 + 67108864 : Nat) : Rat) * ee := by
  have h1 : (2684354560 : Rat) * ee = 5 * p2 (-3) := by decide +kernel
  have h2 : (67108864 : Rat) * ee = 1 / 64 := by decide +kernel
  rw [Rat.natCast_add, Rat.natCast_mul, show ((2684354560 : Nat) : Rat) = 2684354560 from rfl, show ((67108864 : Nat) : Rat) = 67108864 from rfl]
  generalize p2 (-3) = u at *
  generalize ee = e at *
  have : ((be : Rat) * 2684354560 + 67108864) * e = (be : Rat) * (2684354560 * e) + 67108864 * e := by grind
  rw [this, h1, h2]; grind
theorem F1_ok (be : Nat) : 6 * ((be : Rat) * p2 (-3)) + 1 / 64 ≤ ((be * 3221225472 + 67108864 : Nat) : Rat) * ee := by
  have h1 : (3221225472 : Rat) * ee = 6 * p2 (-3) := by decide +kernel
  have h2 : (67108864 : Rat) * ee = 1 / 64 := by decide +kernel
  rw [Rat.natCast_add, Rat.natCast_mul, show ((3221225472 : Nat) : Rat) = 3221225472 from rfl, show ((67108864 : Nat) : Rat) = 67108864 from rfl]
  generalize p2 (-3) = u at *
  generalize ee = e at *
  have : ((be : Rat) * 3221225472 + 67108864) * e = (be : Rat) * (3221225472 * e) + 67108864 * e := by grind
  rw [this, h1, h2]; grind
theorem E1_ok (ga : Nat) : 3 * ((ga : Rat) * p2 (-6)) + 1 / 64 ≤ (((ga * 201326592 + 67108864) <<< 32 : Nat) : Rat) * (ee * ee) := by
  have h1 : (201326592 : Rat) * (4294967296 * (ee * ee)) = 3 * p2 (-6) := by decide +kernel
  have h2 : (67108864 : Rat) * (4294967296 * (ee * ee)) = 1 / 64 := by decide +kernel
  rw [Nat.shiftLeft_eq, show (2 : Nat) ^ 32 = 4294967296 from rfl, Rat.natCast_mul, Rat.natCast_add, Rat.natCast_mul, show ((201326592 : Nat) : Rat) = 201326592 from rfl, show ((67108864 : Nat) : Rat) = 67108864 from rfl, show ((4294967296 : Nat) : Rat) = 4294967296 from rfl]
  generalize p2 (-6) = u at *
  generalize ee = e at *
  have : ((ga : Rat) * 201326592 + 67108864) * 4294967296 * (e * e) = (ga : Rat) * (201326592 * (4294967296 * (e * e))) + 67108864 * (4294967296 * (e * e)) := by grind
  rw [this, h1, h2]; grind
theorem F0_ok (ga : Nat) : (ga : Rat) * p2 (-6) + 1 / 64 ≤ (((ga * 67108864 + 67108864) <<< 32 : Nat) : Rat) * (ee * ee) := by
  have h1 : (67108864 : Rat) * (4294967296 * (ee * ee)) = p2 (-6) := by decide +kernel
  have h2 : (67108864 : Rat) * (4294967296 * (ee * ee)) = 1 / 64 := by decide +kernel
  rw [Nat.shiftLeft_eq, show (2 : Nat) ^ 32 = 4294967296 from rfl, Rat.natCast_mul, Rat.natCast_add, Rat.natCast_mul, show ((67108864 : Nat) : Rat) = 67108864 from rfl, show ((4294967296 : Nat) : Rat) = 4294967296 from rfl]
  have : ((ga : Rat) * 67108864 + 67108864) * 4294967296 * (ee * ee) = (ga : Rat) * (67108864 * (4294967296 * (ee * ee))) + 67108864 * (4294967296 * (ee * ee)) := by
    generalize ee = e at *; clear h1 h2; grind
  rw [this, h1]
  have h3 : p2 (-6) = 1 / 64 := by decide +kernel
  rw [h3]; exact Rat.le_refl
theorem E0_ok (ka : Nat) : (ka : Rat) * p2 (-9) + 1 / 64 ≤ (((ka * 8388608 + 67108864) <<< 64 : Nat) : Rat) * (ee * ee * ee) := by
  have h1 : (8388608 : Rat) * (18446744073709551616 * (ee * ee * ee)) = p2 (-9) := by decide +kernel
  have h2 : (67108864 : Rat) * (18446744073709551616 * (ee * ee * ee)) = 1 / 64 := by decide +kernel
  rw [Nat.shiftLeft_eq, show (2 : Nat) ^ 64 = 18446744073709551616 from rfl, Rat.natCast_mul, Rat.natCast_add, Rat.natCast_mul, show ((8388608 : Nat) : Rat) = 8388608 from rfl, show ((67108864 : Nat) : Rat) = 67108864 from rfl, show ((18446744073709551616 : Nat) : Rat) = 18446744073709551616 from rfl]
  have : ((ka : Rat) * 8388608 + 67108864) * 18446744073709551616 * (ee * ee * ee) = (ka : Rat) * (8388608 * (18446744073709551616 * (ee * ee * ee))) + 67108864 * (18446744073709551616 * (ee * ee * ee)) := by
    generalize ee = e at *; clear h1 h2; grind
  rw [this, h1, h2]; exact Rat.le_refl
theorem orb_iter (f : (Nat → Nat → Nat → Bool) → Nat → Nat → Nat → Bool) : orbK f = iterK f 6 := rfl
theorem pow58 : (2 : Int) ^ 58 = ((288230376151711744 : Nat) : Int) := by decide
theorem pow87 : (2 : Int) ^ 87 = ((154742504910672534362390528 : Nat) : Int) := by decide
theorem le_of_eqQ {a b : Rat} (h : a = b) : a ≤ b := by rw [h]; exact Rat.le_refl
theorem nat_le_q {n m : Nat} {u : Rat} {q : Rat} (h : n ≤ m) (hu : 0 ≤ u) (hq : (m : Rat) * u ≤ q) : (n : Rat) * u ≤ q := by
  have h1 : (n : Rat) ≤ (m : Rat) := by exact_mod_cast h
  exact Rat.le_trans (Rat.mul_le_mul_of_nonneg_right h1 hu) hq

section
variable {B M H OFF KS CZ C16 : Nat} {T0 T1 T2 T3 z : C2} {e1x e1y e2x e2y e3x e3y : Int}
theorem cubB_core {b1 b2 e2 e3 be ga ka : Nat} (K : Cst B M H OFF KS CZ) (h : cub1 B M H OFF KS CZ b1 b2 e2 e3 be ga ka = true)
    (hb1 : (b1 : Int) = -e1x * 536870912 + 17592186044416) (hb2 : (b2 : Int) = -e1y * 536870912 + 17592186044416) (he2 : Rs B e2 e2x e2y) (he3 : Rs B e3 e3x e3y) (he3M : e3 < M)
    (hbe : (be : Int) = e1x.natAbs + e1y.natAbs) (hga : (ga : Int) = e2x.natAbs + e2y.natAbs) (hka : (ka : Int) = e3x.natAbs + e3y.natAbs) (be1 : be ≤ 128) (ga1 : ga ≤ 2048) (ka1 : ka ≤ 16384)
    (g0 : Gr T0 (-e3x) (-e3y) 9) (g1 : Gr T1 e2x e2y 6) (g2 : Gr T2 (-e1x) (-e1y) 3) (g3 : Gr T3 1 0 0) (hz : GridPt z) : SafeFrom [T0, T1, T2, T3] z := by
  obtain ⟨fz, i, k, hi, hk, vz⟩ := hz
  unfold cub1 cub2 at h
  have hg := grid_true h hi hk
  rw [orb_iter] at hg
  refine ball_polish ee_pos ee_32 (fun k => KGood_cub k) ?_ 6 (gpx i) (gpy k) 0 z hg fz (GridPt.ball vz)
  intro k x y R z hgood hk hz hb
  have hbE : Rs B (b1 + (b2 * B + CZ)) (-e1x * 536870912) (-e1y * 536870912) := by
    obtain ⟨l, hl⟩ := K.hZ
    refine ⟨l, ?_⟩
    rw [Int.natCast_add, Int.natCast_add, Int.natCast_mul, hl, hb1, hb2]; grind
  have hc : Rs B (e2 <<< 58) (e2x * ((288230376151711744 : Nat) : Int)) (e2y * ((288230376151711744 : Nat) : Int)) := by have := he2.shl 58; rw [pow58] at this; exact this
  have hcH : Rs B (e2 <<< 58 + OFF) (e2x * ((288230376151711744 : Nat) : Int) + H) (e2y * ((288230376151711744 : Nat) : Int) + H) := hc.add K.hO
  have hd : Rs B ((M - e3) <<< 87) (-e3x * ((154742504910672534362390528 : Nat) : Int)) (-e3y * ((154742504910672534362390528 : Nat) : Int)) := by have := (he3.neg K.hM he3M).shl 87; rw [pow87] at this; exact this
  obtain ⟨u3, u6, u9⟩ := ee_u
  have p3 : (((128 : Nat) : Rat)) * p2 (-3) ≤ 16 := by decide +kernel
  have p6 : (((2048 : Nat) : Rat)) * p2 (-6) ≤ 32 := by decide +kernel
  have p9 : (((16384 : Nat) : Rat)) * p2 (-9) ≤ 32 := by decide +kernel
  have n2 := gr_norm (n := be) g2 (by omega)
  have n1 := gr_norm (n := ga) g1 (by omega)
  have n0 := gr_norm (n := ka) g0 (by omega)
  have vL : cv T3 = one2 := g3.2.trans (q2e (by decide +kernel) (by decide +kernel))
  refine cub_step ee_pos ee_32 ee_small.1 ee_small.2 hgood hk K hb1 hb2 hbE hc hcH hd ?_ ?_ ?_ ?_ ?_ ?_ g0.1 g1.1 g2.1 g3.1 vL ?_ ?_ ?_ (le_of_eqQ n2) (le_of_eqQ n1) (le_of_eqQ n0)
    (nat_le_q be1 (Rat.le_of_lt (p2_pos _)) p3) (nat_le_q ga1 (Rat.le_of_lt (p2_pos _)) p6) (nat_le_q ka1 (Rat.le_of_lt (p2_pos _)) p9) (E2_ok be) (E1_ok ga) (E0_ok ka) (F1_ok be) (F0_ok ga) hz hb
  · have e : (2 : Int) ^ 36 = 68719476736 := by decide
    rw [e]; omega
  · have e : (2 : Int) ^ 36 = 68719476736 := by decide
    rw [e]; omega
  · have e : (2 : Int) ^ 70 = 4096 * ((288230376151711744 : Nat) : Int) := by decide
    rw [e]; omega
  · have e : (2 : Int) ^ 70 = 4096 * ((288230376151711744 : Nat) : Int) := by decide
    rw [e]; omega
  · have e : (2 : Int) ^ 104 = 131072 * ((154742504910672534362390528 : Nat) : Int) := by decide
    rw [e]; omega
  · have e : (2 : Int) ^ 104 = 131072 * ((154742504910672534362390528 : Nat) : Int) := by decide
    rw [e]; omega
  · exact g2.2.trans (q2e (dyc u3) (dyc u3))
  · exact g1.2.trans (q2e (dyc u6) (dyc u6))
  · exact g0.2.trans (q2e (dyc u9) (dyc u9))

theorem cub0_safe {sx sy e2 ex ey r3 m12 : Nat} {cx cy dx dy : Int} (K : Cst B M H OFF KS CZ) (h : cub0c B M H OFF KS CZ sx sy e2 ex ey r3 m12 = true)
    (hsx : (sx : Int) = e1x + 48) (hsy : (sy : Int) = e1y + 48) (he2 : Rs B e2 cx cy) (hex : (ex : Int) = cx + H) (hey : (ey : Int) = cy + H) (hm : Rs B (m12 * r3) dx dy)
    (a1 : e1x.natAbs ≤ 40) (a2 : e1y.natAbs ≤ 40) (bcx : -512 ≤ cx ∧ cx ≤ 512) (bcy : -512 ≤ cy ∧ cy ≤ 512) (bdx : -2048 ≤ dx ∧ dx ≤ 2048) (bdy : -2048 ≤ dy ∧ dy ≤ 2048) (hc : cx = 0 ∨ cy = 0)
    (g0 : Gr T0 (-dx) (-dy) 9) (g1 : Gr T1 cx cy 6) (g2 : Gr T2 (-e1x) (-e1y) 3) (g3 : Gr T3 1 0 0) (hz : GridPt z) : SafeFrom [T0, T1, T2, T3] z := by
  have hb : cub0b B M H OFF KS CZ sx sy e2 ex ey (m12 * r3 % M) ((m12 * r3 + OFF) % M) = true := by
    unfold cub0c at h
    by_cases h1 : ex = H
    · rw [h1, Nat.beq_refl, _root_.cond_true] at h
      rw [h1]; exact h
    · have h2 : ey = H := by omega
      rw [h2, Nat.beq_refl, _root_.cond_true] at h
      have h3 : Nat.beq ex H = false := by
        cases hb : Nat.beq ex H with
        | false => rfl
        | true => exact absurd (Nat.eq_of_beq_eq_true hb) h1
      rw [h3, _root_.cond_false] at h
      rw [h2]; exact h
  unfold cub0b at hb
  obtain ⟨od1, od2⟩ := hm.off K.hO K.hM K.hB K.hH (Nat.lt_of_le_of_lt (show dx.natAbs ≤ 2048 by omega) (by decide)) (Nat.lt_of_le_of_lt (show dy.natAbs ≤ 2048 by omega) (by decide))
  have M0 : 0 < M := by rw [K.hM]; omega
  have c1 := ab_val sx 48
  have c2 := ab_val sy 48
  have c3 := ab_val ex H
  have c4 := ab_val ey H
  have c5 := ab_val ((m12 * r3 + OFF) % M % B) H
  have c6 := ab_val ((m12 * r3 + OFF) % M / B) H
  refine cubB_core (e1x := e1x) (e1y := e1y) K hb ?_ ?_ he2 (hm.mod K.hM) (Nat.mod_lt _ M0) ?_ ?_ ?_ ?_ ?_ ?_ g0 g1 g2 g3 hz
  · rw [Nat.sub_eq, Nat.mul_eq]; omega
  · rw [Nat.sub_eq, Nat.mul_eq]; omega
  · rw [Nat.add_eq]; omega
  · rw [Nat.add_eq]; omega
  · show (((ab ((m12 * r3 + OFF) % M % B) H).add (ab ((m12 * r3 + OFF) % M / B) H) : Nat) : Int) = _
    rw [Nat.add_eq]
    generalize (m12 * r3 + OFF) % M % B = u at *
    generalize (m12 * r3 + OFF) % M / B = v at *
    omega
  · rw [Nat.add_eq]; omega
  · rw [Nat.add_eq]; omega
  · show (ab ((m12 * r3 + OFF) % M % B) H).add (ab ((m12 * r3 + OFF) % M / B) H) ≤ 16384
    rw [Nat.add_eq]
    generalize (m12 * r3 + OFF) % M % B = u at *
    generalize (m12 * r3 + OFF) % M / B = v at *
    omega

theorem cubB {j1 j2 j3 : Nat} {x1 y1 x2 y2 x3 y3 : Int} (K : Cst2 B M H OFF KS CZ C16) (h : cub6 B M H OFF KS CZ C16 j1 = true) (hj2 : j2 < 85) (hj3 : j3 < 85)
    (hx1 : ((rootX 0 j1 : Nat) : Int) = x1 + 16) (hy1 : ((rootY j1 : Nat) : Int) = y1 + 16) (hx2 : ((rootX 1 j2 : Nat) : Int) = x2 + 16) (hy2 : ((rootY j2 : Nat) : Int) = y2 + 16)
    (hx3 : ((rootX 2 j3 : Nat) : Int) = x3 + 16) (hy3 : ((rootY j3 : Nat) : Int) = y3 + 16)
    (r1 : -12 ≤ x1 ∧ x1 ≤ -8) (r2 : -4 ≤ x2 ∧ x2 ≤ 0) (r3 : 4 ≤ x3 ∧ x3 ≤ 8) (s1 : -8 ≤ y1 ∧ y1 ≤ 8) (s2 : -8 ≤ y2 ∧ y2 ≤ 8) (s3 : -8 ≤ y3 ∧ y3 ≤ 8)
    (hc : x1 * x2 - y1 * y2 + ((x1 + x2) * x3 - (y1 + y2) * y3) = 0 ∨ x1 * y2 + y1 * x2 + ((x1 + x2) * y3 + (y1 + y2) * x3) = 0)
    (g0 : Gr T0 (-((x1 * x2 - y1 * y2) * x3 - (x1 * y2 + y1 * x2) * y3)) (-((x1 * x2 - y1 * y2) * y3 + (x1 * y2 + y1 * x2) * x3)) 9)
    (g1 : Gr T1 (x1 * x2 - y1 * y2 + ((x1 + x2) * x3 - (y1 + y2) * y3)) (x1 * y2 + y1 * x2 + ((x1 + x2) * y3 + (y1 + y2) * x3)) 6) (g2 : Gr T2 (-(x1 + x2 + x3)) (-(y1 + y2 + y3)) 3) (g3 : Gr T3 1 0 0) (hz : GridPt z) :
    SafeFrom [T0, T1, T2, T3] z := by
  have h := all85_true h hj2
  unfold cub5 cub4 at h
  have h := all85_true h hj3
  unfold cub3 cub0e cub0d at h
  have q1 := mulb (a := x1) (b := x2) (U := 12) (V := 4) (by omega) (by omega)
  have q2 := mulb (a := y1) (b := y2) (U := 8) (V := 8) (by omega) (by omega)
  have q3 := mulb (a := x1) (b := y2) (U := 12) (V := 8) (by omega) (by omega)
  have q4 := mulb (a := y1) (b := x2) (U := 8) (V := 4) (by omega) (by omega)
  have R1 := K.h16.root hx1 hy1
  have R2 := K.h16.root hx2 hy2
  have R3 := K.h16.root hx3 hy3
  have M12 := (R1.mul R2).mod K.hM
  have S12 := R1.add R2
  have E2' := (M12.add (S12.mul R3)).mod K.hM
  have E3' := (M12.mul R3).mod K.hM
  generalize hp : x1 * x2 - y1 * y2 = p at *
  generalize hq : x1 * y2 + y1 * x2 = q at *
  have bp : -112 ≤ p ∧ p ≤ 112 := by omega
  have bq : -128 ≤ q ∧ q ≤ 128 := by omega
  have t1 := mulb (a := p) (b := x3) (U := 112) (V := 8) (by omega) (by omega)
  have t2 := mulb (a := q) (b := y3) (U := 128) (V := 8) (by omega) (by omega)
  have t3 := mulb (a := p) (b := y3) (U := 112) (V := 8) (by omega) (by omega)
  have t4 := mulb (a := q) (b := x3) (U := 128) (V := 8) (by omega) (by omega)
  have u1 := mulb (a := x1 + x2) (b := x3) (U := 16) (V := 8) (by omega) (by omega)
  have u2 := mulb (a := y1 + y2) (b := y3) (U := 16) (V := 8) (by omega) (by omega)
  have u3 := mulb (a := x1 + x2) (b := y3) (U := 16) (V := 8) (by omega) (by omega)
  have u4 := mulb (a := y1 + y2) (b := x3) (U := 16) (V := 8) (by omega) (by omega)
  generalize hcx : p + ((x1 + x2) * x3 - (y1 + y2) * y3) = cx at *
  generalize hcy : q + ((x1 + x2) * y3 + (y1 + y2) * x3) = cy at *
  generalize hdx : p * x3 - q * y3 = dx at *
  generalize hdy : p * y3 + q * x3 = dy at *
  have bcx : -512 ≤ cx ∧ cx ≤ 512 := by omega
  have bcy : -512 ≤ cy ∧ cy ≤ 512 := by omega
  have bdx : -2048 ≤ dx ∧ dx ≤ 2048 := by omega
  have bdy : -2048 ≤ dy ∧ dy ≤ 2048 := by omega
  clear q1 q2 q3 q4 t1 t2 t3 t4 u1 u2 u3 u4
  obtain ⟨oc1, oc2⟩ := ((M12.add (S12.mul R3)).mod K.hM).off K.hO K.hM K.hB K.hH (Nat.lt_of_le_of_lt (show (p + ((x1 + x2) * x3 - (y1 + y2) * y3)).natAbs ≤ 512 by omega) (by decide)) (Nat.lt_of_le_of_lt (show (q + ((x1 + x2) * y3 + (y1 + y2) * x3)).natAbs ≤ 512 by omega) (by decide))
  have hm := M12.mul R3
  rw [hdx, hdy] at hm
  have he2 := (M12.add (S12.mul R3)).mod K.hM
  rw [hp, hq] at *
  rw [hcx, hcy] at *
  refine cub0_safe (e1x := x1 + x2 + x3) (e1y := y1 + y2 + y3) K.toCst h ?_ ?_ he2 oc1 oc2 hm ?_ ?_ bcx bcy bdx bdy hc g0 g1 g2 g3 hz
  · rw [Nat.add_eq, Nat.add_eq]; omega
  · rw [Nat.add_eq, Nat.add_eq]; omega
  · omega
  · omega
end
end Go.Proofs.Ytalfkkagbajjcaa
