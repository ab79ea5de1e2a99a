/- A cubic's step of the reckoning: the computed Newton step is safe and stays in the next ball. Conditions: the terms are what the numbers say. -/
import Derived.Test.YtalfkkagbajjcaaZ11
namespace Go.Proofs.Ytalfkkagbajjcaa
set_option linter.unusedSimpArgs false
set_option linter.unusedVariables false

theorem ev_pure {r b c d Ee2 Ee1 Ee0 T : Rat} (r0 : 0 ≤ r) (r1 : r ≤ 512) (b0 : 0 ≤ b) (b1 : b ≤ 32) (c0 : 0 ≤ c) (c1 : c ≤ 32) (d1 : d ≤ 32) (h2 : 5 * b + 1 / 64 ≤ Ee2) (h1 : 3 * c + 1 / 64 ≤ Ee1) (h0 : d + 1 / 64 ≤ Ee0)
    (hT : ((6 * r + Ee2) * r + Ee1) * r + Ee0 ≤ T * 16777216) : Uc * (6 * 1 * (r * r * r) + 5 * (b * (r * r)) + 3 * (c * r) + d) + p2 (-60) ≤ T := by
  have k1 : Uc = 1 / 16777216 + 1 / 17592186044416 := rfl
  have k2 : p2 (-60) ≤ 1 / 17592186044416 := by decide +kernel
  rw [k1]
  generalize p2 (-60) = t at *
  have rr0 := Rat.mul_nonneg r0 r0
  have g1 := Rat.mul_le_mul_of_nonneg_right r1 rr0
  have g2 := Rat.mul_le_mul_of_nonneg_right b1 rr0
  have g3 := Rat.mul_le_mul_of_nonneg_right c1 r0
  have g4 := Rat.mul_le_mul_of_nonneg_right h2 rr0
  have g5 := Rat.mul_le_mul_of_nonneg_right h1 r0
  grind
theorem es_pure {r b b' c Ff1 Ff0 T : Rat} (r0 : 0 ≤ r) (r1 : r ≤ 512) (b0 : 0 ≤ b) (b1 : b ≤ 32) (hb : b' = 2 * b) (c0 : 0 ≤ c) (c1 : c ≤ 32) (h1 : 6 * b + 1 / 64 ≤ Ff1) (h0 : c + 1 / 64 ≤ Ff0)
    (hT : (12 * r + Ff1) * r + Ff0 ≤ T * 16777216) : Ub * (4 * 3 * (r * r) + 3 * (b' * r) + c) + (6 * (e1 * r) + 3 * e1) ≤ T := by
  have k1 : Ub = 1 / 16777216 + 1 / 35184372088832 := rfl
  have k2 : e1 ≤ 1 / 1152921504606846976 := by decide +kernel
  have k3 := e1_pos
  rw [k1, hb]
  have g0 := Rat.mul_le_mul_of_nonneg_right k2 r0
  have g1 := Rat.mul_le_mul_of_nonneg_right r1 r0
  have g2 := Rat.mul_le_mul_of_nonneg_right b1 r0
  have g5 := Rat.mul_le_mul_of_nonneg_right h1 r0
  generalize e1 = t at *
  grind


section
variable {e : Rat}
theorem p100_of {a : Rat} (h : a ≤ 32) : a < p2 100 := by
  have h2 : (32 : Rat) < p2 100 := by decide +kernel
  generalize p2 100 = t at *
  grind
theorem be2_of {a : Rat} (h : a ≤ 16) : 2 * a ≤ 32 := by grind
theorem be2_pos {a : Rat} (h : 0 ≤ a) : 0 ≤ 2 * a := by grind
theorem lt_of_e {a : Rat} (h : 0 < e) (h2 : e ≤ a) : 0 < a := by grind
theorem size_pure {X Y fx fy : Int} {w q R core m x' y' : Nat} (hw : (w : Int) = X.natAbs + Y.natAbs + R) (hw2 : w ≤ 2199023255552) (hq : (q : Int) = fx.natAbs + fy.natAbs + 2)
    (hx' : (x' : Int) = X - fx + 17592186044416) (hy' : (y' : Int) = Y - fy + 17592186044416) (h : ab x' 17592186044416 + ab y' 17592186044416 + (core + 6 + m) ≤ 8796093022208) : q + R + core ≤ 2199023255552 * 64 := by
  have c1 := ab_val x' 17592186044416
  have c2 := ab_val y' 17592186044416
  omega
theorem q42_pure {q R core : Nat} {a : Rat} (e0 : 0 < e) (e32 : e * 4294967296 = 1) (h : q + R + core ≤ 2199023255552 * 64) (ha : a ≤ ((q : Rat) + (R : Rat) + (core : Rat)) * e) : a ≤ p2 42 := by
  have a1 : ((q + R + core : Nat) : Rat) ≤ ((2199023255552 * 64 : Nat) : Rat) := by exact_mod_cast h
  rw [Rat.natCast_add, Rat.natCast_add] at a1
  have a2 := Rat.mul_le_mul_of_nonneg_right a1 (Rat.le_of_lt e0)
  have a3 : ((2199023255552 * 64 : Nat) : Rat) * e = 32768 := by
    rw [show ((2199023255552 * 64 : Nat) : Rat) = 32768 * 4294967296 by decide +kernel, Rat.mul_assoc, Rat.mul_comm _ e, e32]; decide +kernel
  rw [a3] at a2
  exact Rat.le_trans ha (Rat.le_trans a2 (by decide +kernel))
theorem low_pure {s dd m : Rat} (e0 : 0 ≤ e) (h1 : dd + 1 ≤ s) (h2 : s * e - dd * e ≤ m) : e ≤ m := by
  have a1 := Rat.mul_le_mul_of_nonneg_right h1 e0
  grind
theorem n_cen (X Y : Int) (he : 0 ≤ e) : N (⟨(X : Rat) * e, (Y : Rat) * e⟩ : Q2) = (((X.natAbs : Nat) : Rat) + ((Y.natAbs : Nat) : Rat)) * e := by
  show A ((X : Rat) * e) + A ((Y : Rat) * e) = _
  rw [A_intm X he, A_intm Y he]; grind
theorem cen_eq {x : Nat} {X : Int} (h : (x : Int) = X + 17592186044416) : (x : Rat) - 17592186044416 = (X : Rat) := by
  have : ((x : Int) : Rat) = ((X + 17592186044416 : Int) : Rat) := by rw [h]
  rw [Rat.intCast_natCast, Rat.intCast_add] at this
  rw [this]
  show (X : Rat) + 17592186044416 - 17592186044416 = (X : Rat)
  grind
theorem cen_is {x y : Nat} {X Y : Int} (hx : (x : Int) = X + 17592186044416) (hy : (y : Int) = Y + 17592186044416) : cen e x y = ⟨(X : Rat) * e, (Y : Rat) * e⟩ := by
  unfold cen; rw [cen_eq hx, cen_eq hy]
theorem cen_sub (X Y fx fy : Int) : (⟨((X - fx : Int) : Rat) * e, ((Y - fy : Int) : Rat) * e⟩ : Q2) = ⟨(X : Rat) * e, (Y : Rat) * e⟩ - ⟨(fx : Rat) * e, (fy : Rat) * e⟩ := by
  apply q2e
  · simp only [re_sub, Rat.intCast_sub]; grind
  · simp only [im_sub, Rat.intCast_sub]; grind
theorem hr_le {z Zc : Q2} {a R w : Rat} (h : N (z - Zc) ≤ R * e) (hZ : N Zc = a * e) (hw : w = a + R) : N z ≤ w * e := by
  have := N_tri z Zc
  rw [hw]; grind
theorem e_512 {w : Rat} (e0 : 0 < e) (e32 : e * 4294967296 = 1) (hw : w ≤ 2199023255552) : w * e ≤ 512 := by
  have a1 := Rat.mul_le_mul_of_nonneg_right hw (Rat.le_of_lt e0)
  have a2 : (2199023255552 : Rat) * e = 512 := by
    rw [show (2199023255552 : Rat) = 512 * 4294967296 by decide +kernel, Rat.mul_assoc, Rat.mul_comm _ e, e32]; decide +kernel
  rw [a2] at a1; exact a1
theorem e_56 (e32 : e * 4294967296 = 1) : (72057594037927936 : Rat) * e = 16777216 := by
  rw [show (72057594037927936 : Rat) = 16777216 * 4294967296 by decide +kernel, Rat.mul_assoc, Rat.mul_comm _ e, e32]; decide +kernel
theorem ev_nat {w E2 E1 E0 ev : Nat} (e0 : 0 < e) (e32 : e * 4294967296 = 1) (hev : ev = (((6 * w + E2) * w + E1) * w + E0) / 2 ^ 56) :
    ((6 * ((w : Rat) * e) + (E2 : Rat) * e) * ((w : Rat) * e) + (E1 : Rat) * (e * e)) * ((w : Rat) * e) + (E0 : Rat) * (e * e * e) ≤ (((ev : Rat) + 1) * (e * e)) * 16777216 := by
  have a2 : ((((6 * w + E2) * w + E1) * w + E0 : Nat) : Rat) ≤ (((((6 * w + E2) * w + E1) * w + E0) / 2 ^ 56 : Nat) + 1 : Rat) * ((2 ^ 56 : Nat) : Rat) := div_lt _ (by decide)
  rw [← hev] at a2
  simp only [Rat.natCast_add, Rat.natCast_mul] at a2
  rw [show ((6 : Nat) : Rat) = 6 from rfl, show ((2 ^ 56 : Nat) : Rat) = 72057594037927936 from by decide +kernel] at a2
  have a3 := Rat.mul_le_mul_of_nonneg_right a2 (show 0 ≤ e * e * e from Rat.mul_nonneg (Rat.mul_nonneg (Rat.le_of_lt e0) (Rat.le_of_lt e0)) (Rat.le_of_lt e0))
  have b1 := e_56 e32
  have b2 : ((ev : Rat) + 1) * 72057594037927936 * (e * e * e) = (((ev : Rat) + 1) * (e * e)) * (72057594037927936 * e) := by grind
  rw [b2, b1] at a3
  clear hev b1 b2 a2 e32 e0
  grind
theorem es_nat {w F1 F0 es : Nat} (e0 : 0 < e) (e32 : e * 4294967296 = 1) (hes : es = ((12 * w + F1) * w + F0) / 2 ^ 56) :
    (12 * ((w : Rat) * e) + (F1 : Rat) * e) * ((w : Rat) * e) + (F0 : Rat) * (e * e) ≤ (((es : Rat) + 1) * e) * 16777216 := by
  have a2 : ((((12 * w + F1) * w + F0 : Nat) : Rat)) ≤ ((((12 * w + F1) * w + F0) / 2 ^ 56 : Nat) + 1 : Rat) * ((2 ^ 56 : Nat) : Rat) := div_lt _ (by decide)
  rw [← hes] at a2
  simp only [Rat.natCast_add, Rat.natCast_mul] at a2
  rw [show ((12 : Nat) : Rat) = 12 from rfl, show ((2 ^ 56 : Nat) : Rat) = 72057594037927936 from by decide +kernel] at a2
  have a3 := Rat.mul_le_mul_of_nonneg_right a2 (show 0 ≤ e * e from Rat.mul_nonneg (Rat.le_of_lt e0) (Rat.le_of_lt e0))
  have b1 := e_56 e32
  have b2 : ((es : Rat) + 1) * 72057594037927936 * (e * e) = (((es : Rat) + 1) * e) * (72057594037927936 * e) := by grind
  rw [b2, b1] at a3
  clear hes b1 b2 a2 e32 e0
  grind
theorem bv_pure {v V : Q2} {r be ga ka : Rat} (r0 : 0 ≤ r) (r1 : r ≤ 512) (be0 : 0 ≤ be) (be1 : be ≤ 32) (ga1 : ga ≤ 32) (ka1 : ka ≤ 32)
    (a1 : N V ≤ 1 * (r * r * r) + be * (r * r) + ga * r + ka) (a3 : N (v - V) ≤ Uc * (6 * 1 * (r * r * r) + 5 * (be * (r * r)) + 3 * (ga * r) + ka) + p2 (-60)) (P0 : 0 ≤ 6 * 1 * (r * r * r) + 5 * (be * (r * r)) + 3 * (ga * r) + ka) : N v < p2 126 := by
  have a2 := N_tri v V
  have a4 : Uc ≤ 1 := by decide +kernel
  have a5 := Rat.mul_le_mul_of_nonneg_right a4 P0
  have a6 : p2 (-60) ≤ 1 := by decide +kernel
  have a7 : (100000000000 : Rat) ≤ p2 126 := by decide +kernel
  have g0 := mul_le r1 r1 r0 (by decide +kernel)
  have g1 := mul_le g0 r1 r0 (by decide +kernel)
  have g2 := mul_le be1 g0 (Rat.mul_nonneg r0 r0) (by decide +kernel)
  have g3 := mul_le ga1 r1 r0 (by decide +kernel)
  generalize Uc = U at *
  generalize p2 (-60) = t1 at *
  generalize p2 126 = t2 at *
  clear a4
  grind
theorem bs_pure {v V : Q2} {r be ga : Rat} (r0 : 0 ≤ r) (r1 : r ≤ 512) (be0 : 0 ≤ be) (be1 : be ≤ 32) (ga1 : ga ≤ 32)
    (a1 : N V ≤ 3 * (r * r) + be * r + ga) (a3 : N (v - V) ≤ Ub * (4 * 3 * (r * r) + 3 * (be * r) + ga) + (6 * (e1 * r) + 3 * e1)) (P0 : 0 ≤ 4 * 3 * (r * r) + 3 * (be * r) + ga) : N v < p2 100 := by
  have a2 := N_tri v V
  have a4 : Ub ≤ 1 := by decide +kernel
  have a5 := Rat.mul_le_mul_of_nonneg_right a4 P0
  have a6 : e1 ≤ 1 := by decide +kernel
  have a7 : (100000000000 : Rat) ≤ p2 100 := by decide +kernel
  have g0 := mul_le r1 r1 r0 (by decide +kernel)
  have g3 := mul_le be1 r1 r0 (by decide +kernel)
  have g4 := Rat.mul_le_mul_of_nonneg_right a6 r0
  generalize Ub = U at *
  generalize e1 = t1 at *
  generalize p2 100 = t2 at *
  clear a4
  grind
theorem nS_pure {sx sy : Int} {N1 : Nat} (f : Rat) (hf : 0 ≤ f) (h : (N1 : Int) = sx.natAbs + sy.natAbs) : N (⟨(sx : Rat) * f, (sy : Rat) * f⟩ : Q2) = (N1 : Rat) * f := by
  rw [n_cen sx sy hf]
  have : N1 = sx.natAbs + sy.natAbs := by omega
  rw [this, Rat.natCast_add]
theorem sS_pure {sx sy : Int} {n : Nat} (f : Rat) (h : (n : Int) = sx * sx + sy * sy) : sqN (⟨(sx : Rat) * f, (sy : Rat) * f⟩ : Q2) = (n : Rat) * (f * f) := by
  have hnr : ((n : Nat) : Rat) = (sx : Rat) * sx + (sy : Rat) * sy := by rw [← Rat.intCast_natCast, h]; simp only [Rat.intCast_add, Rat.intCast_mul]
  rw [hnr]
  simp only [sqN]; grind
theorem pos_of_sq {S : Q2} {a : Rat} (h : sqN S = a) (ha : 0 < a) : 0 < N S := by
  have a1 := sqN_le S
  have a2 := N_nonneg S
  rw [h] at a1
  by_cases h0 : N S = 0
  · rw [h0] at a1; grind
  · grind
theorem hg_pure {s N1 n : Nat} (e0 : 0 < e) (e32 : e * 4294967296 = 1) (hs : s * 4294967296 * N1 ≤ n) : (s : Rat) * e * ((N1 : Rat) * (e * e)) ≤ (n : Rat) * (e * e * (e * e)) := by
  have a1 : ((s * 4294967296 * N1 : Nat) : Rat) ≤ (n : Rat) := by exact_mod_cast hs
  rw [Rat.natCast_mul, Rat.natCast_mul, show ((4294967296 : Nat) : Rat) = 4294967296 from rfl] at a1
  have e2p : 0 < e * e := Rat.mul_pos e0 e0
  have a2 := Rat.mul_le_mul_of_nonneg_right a1 (Rat.le_of_lt (Rat.mul_pos e2p e2p))
  have a3 : (s : Rat) * 4294967296 * (N1 : Rat) * (e * e * (e * e)) = (s : Rat) * e * ((N1 : Rat) * (e * e)) * (e * 4294967296) := by grind
  rw [a3, e32, Rat.mul_one] at a2
  exact a2
theorem ht_pure {X Y B1 B2 : Int} {t : Nat} {b : Q2} (e0 : 0 ≤ e) (hb : b = ⟨(B1 : Rat) * e, (B2 : Rat) * e⟩) (ht : (t : Int) = (3 * X + B1).natAbs + (3 * Y + B2).natAbs) :
    N ((⟨(X : Rat) * e, (Y : Rat) * e⟩ : Q2) + ⟨(X : Rat) * e, (Y : Rat) * e⟩ + ⟨(X : Rat) * e, (Y : Rat) * e⟩ + b) ≤ (t : Rat) * e := by
  have a1 : (⟨(X : Rat) * e, (Y : Rat) * e⟩ : Q2) + ⟨(X : Rat) * e, (Y : Rat) * e⟩ + ⟨(X : Rat) * e, (Y : Rat) * e⟩ + b = ⟨((3 * X + B1 : Int) : Rat) * e, ((3 * Y + B2 : Int) : Rat) * e⟩ := by
    rw [hb]
    apply q2e
    · simp only [re_add, Rat.intCast_add, Rat.intCast_mul, show ((3 : Int) : Rat) = 3 from rfl]; grind
    · simp only [im_add, Rat.intCast_add, Rat.intCast_mul, show ((3 : Int) : Rat) = 3 from rfl]; grind
  rw [a1, nS_pure e e0 ht]
  exact Rat.le_refl
theorem floor32 {a f : Nat} (h : f = a / 2 ^ 32) (e0 : 0 < e) (e32 : e * 4294967296 = 1) : (a : Rat) * (e * e) ≤ ((f : Rat) + 1) * e := by
  have a2 : ((a : Nat) : Rat) ≤ ((a / 2 ^ 32 : Nat) + 1 : Rat) * ((2 ^ 32 : Nat) : Rat) := div_lt _ (by decide)
  rw [← h, show ((2 ^ 32 : Nat) : Rat) = 4294967296 from by decide +kernel] at a2
  have a4 := Rat.mul_le_mul_of_nonneg_right a2 (Rat.le_of_lt (Rat.mul_pos e0 e0))
  have a5 : ((f : Rat) + 1) * 4294967296 * (e * e) = ((f : Rat) + 1) * e * (e * 4294967296) := by grind
  rw [a5, e32, Rat.mul_one] at a4
  exact a4
theorem dd_pure {t R es dd : Nat} (e0 : 0 < e) (e32 : e * 4294967296 = 1) (hdd : dd = ((t + t + 3 * R) * R) / 2 ^ 32 + (es + 2)) :
    2 * ((t : Rat) * e * ((R : Rat) * e)) + 3 * ((R : Rat) * e * ((R : Rat) * e)) + ((es : Rat) + 1) * e ≤ (dd : Rat) * e := by
  have a1 := floor32 (e := e) (a := (t + t + 3 * R) * R) rfl e0 e32
  have a3 : (dd : Rat) = (((t + t + 3 * R) * R) / 2 ^ 32 : Nat) + ((es : Rat) + 2) := by rw [hdd, Rat.natCast_add, Rat.natCast_add]; rfl
  rw [a3]
  generalize ((((t + t + 3 * R) * R) / 2 ^ 32 : Nat) : Rat) = f at *
  simp only [Rat.natCast_add, Rat.natCast_mul] at a1
  rw [show ((3 : Nat) : Rat) = 3 from rfl] at a1
  clear hdd a3 e32
  generalize (t : Rat) = t at *
  generalize (R : Rat) = R at *
  generalize (es : Rat) = es at *
  grind
theorem core_pure {num s dd core : Nat} (hcore : core = num / (s - dd) + 1) (hds : dd < s) : (num : Rat) ≤ (core : Rat) * ((s : Rat) - (dd : Rat)) := by
  have hsd : 0 < s - dd := by omega
  have a3 := div_lt num hsd
  have a4 : ((num / (s - dd) : Nat) : Rat) + 1 = (core : Rat) := by rw [hcore, Rat.natCast_add]; rfl
  rw [a4] at a3
  have a5 : ((s - dd : Nat) : Rat) = (s : Rat) - (dd : Rat) := by
    have : ((s - dd : Nat) : Rat) + (dd : Rat) = (s : Rat) := by rw [← Rat.natCast_add]; congr 1; omega
    grind
  rw [a5] at a3
  exact a3
theorem num_pure {t R es ev q dd s core : Nat} (e0 : 0 < e) (e32 : e * 4294967296 = 1) (hds : dd < s) (hcore : core = ((((t + (R + R)) * R) / 2 ^ 32 + es + 2) * R + (ev + 1) + q * dd) / (s - dd) + 1) :
    (t : Rat) * e * ((R : Rat) * e * ((R : Rat) * e)) + 2 * ((R : Rat) * e * ((R : Rat) * e) * ((R : Rat) * e)) + (R : Rat) * e * (((es : Rat) + 1) * e) + ((ev : Rat) + 1) * (e * e) + (q : Rat) * e * ((dd : Rat) * e) ≤ (core : Rat) * e * ((s : Rat) * e - (dd : Rat) * e) := by
  have a1 := floor32 (e := e) (a := (t + (R + R)) * R) rfl e0 e32
  have a3 := core_pure hcore hds
  generalize ((t + (R + R)) * R) / 2 ^ 32 = f at *
  simp only [Rat.natCast_add, Rat.natCast_mul] at a1 a3
  rw [show ((2 : Nat) : Rat) = 2 from rfl, show ((1 : Nat) : Rat) = 1 from rfl] at a3
  have R0 : (0 : Rat) ≤ (R : Rat) := by exact_mod_cast Nat.zero_le R
  clear e32 hcore hds
  generalize (f : Rat) = f at *
  generalize (t : Rat) = t at *
  generalize (R : Rat) = R at *
  generalize (es : Rat) = es at *
  generalize (ev : Rat) = ev at *
  generalize (q : Rat) = q at *
  generalize (dd : Rat) = dd at *
  generalize (s : Rat) = s at *
  generalize (core : Rat) = core at *
  have a6 := Rat.mul_le_mul_of_nonneg_right a3 (show 0 ≤ e * e from Rat.mul_nonneg (Rat.le_of_lt e0) (Rat.le_of_lt e0))
  have a7 := Rat.mul_le_mul_of_nonneg_right a1 (show 0 ≤ R * e from Rat.mul_nonneg R0 (Rat.le_of_lt e0))
  clear a1 a3
  grind
theorem nq_pure {z q Q0 Zc : Q2} {a b c : Rat} (h1 : N Q0 ≤ a * e) (h2 : N (z - Zc) ≤ b * e) (h3 : N ((z - q) - (Zc - Q0)) ≤ c * e) : N q ≤ (a + b + c) * e := by
  have a1 : q = Q0 + ((z - Zc) - ((z - q) - (Zc - Q0))) := q2e (by simp; grind) (by simp; grind)
  have a2 := N_add Q0 ((z - Zc) - ((z - q) - (Zc - Q0)))
  have a3 := N_sub (z - Zc) ((z - q) - (Zc - Q0))
  rw [← a1] at a2
  grind
theorem end_pure {z' z q Q0 Zc Qf : Q2} {w cn R q1 R' : Nat} (e0 : 0 < e) (h1 : N (z' - (z - q)) ≤ u1 * (2 * N q + N (z - q)) + 3 * e1) (h2 : N ((z - q) - (Zc - Q0)) ≤ (cn : Rat) * e) (h3 : N (Q0 - Qf) ≤ 2 * e)
    (hz : N z ≤ (w : Rat) * e) (hq : N q ≤ ((q1 : Rat) + (R : Rat) + (cn : Rat)) * e) (he : 3 * e1 ≤ e) (hR' : R' = cn + 6 + (2 * (q1 + cn + R) + w) / 2 ^ 23) : N (z' - (Zc - Qf)) ≤ (R' : Rat) * e := by
  have a1 : z' - (Zc - Qf) = (z' - (z - q)) + ((z - q) - (Zc - Q0)) - (Q0 - Qf) := q2e (by simp; grind) (by simp; grind)
  have a2 := N_sub ((z' - (z - q)) + ((z - q) - (Zc - Q0))) (Q0 - Qf)
  have a3 := N_add (z' - (z - q)) ((z - q) - (Zc - Q0))
  have a4 := N_sub z q
  have d1 : ((2 * (q1 + cn + R) + w : Nat) : Rat) ≤ (((2 * (q1 + cn + R) + w) / 2 ^ 23 : Nat) + 1 : Rat) * ((2 ^ 23 : Nat) : Rat) := div_lt _ (by decide)
  have d2 : (R' : Rat) = (cn : Rat) + 6 + (((2 * (q1 + cn + R) + w) / 2 ^ 23 : Nat) : Rat) := by rw [hR', Rat.natCast_add, Rat.natCast_add]; rfl
  rw [a1, d2]
  generalize (((2 * (q1 + cn + R) + w) / 2 ^ 23 : Nat) : Rat) = f at *
  simp only [Rat.natCast_add, Rat.natCast_mul] at d1
  rw [show ((2 : Nat) : Rat) = 2 from rfl, show ((2 ^ 23 : Nat) : Rat) = 8388608 from by decide +kernel] at d1
  have u14 : u1 ≤ 1 / 12582912 := by decide +kernel
  have n1 := N_nonneg q
  have n2 := N_nonneg z
  have a5 := Rat.mul_le_mul_of_nonneg_right u14 (show 0 ≤ 2 * N q + N (z - q) by have := N_nonneg (z - q); grind)
  have d3 := Rat.mul_le_mul_of_nonneg_right d1 (Rat.le_of_lt e0)
  clear a1 d2 hR' u14 d1
  generalize (cn : Rat) = cn at *
  generalize (q1 : Rat) = q1 at *
  generalize (R : Rat) = R at *
  generalize (w : Rat) = w at *
  generalize u1 * (2 * N q + N (z - q)) = g at *
  generalize e1 = e1' at *
  generalize N ((z' - (z - q)) + ((z - q) - (Zc - Q0)) - (Q0 - Qf)) = b1 at *
  generalize N ((z' - (z - q)) + ((z - q) - (Zc - Q0))) = b2 at *
  generalize N (z' - (z - q)) = b3 at *
  generalize N ((z - q) - (Zc - Q0)) = b4 at *
  generalize N (Q0 - Qf) = b5 at *
  generalize N (z - q) = b6 at *
  generalize N q = b7 at *
  generalize N z = b8 at *
  grind
end

section
variable {B M H OFF KS CZ b1 b2 bE c cH d E2 E1 E0 F1 F0 : Nat} {k : Nat → Nat → Nat → Bool} {x y R : Nat} {B1 B2 Cx Cy Dx Dy : Int} {Dw Cw Bw Lw z : C2} {be ga ka e : Rat}
theorem cub_step (e0 : 0 < e) (e32 : e * 4294967296 = 1) (he1 : 3 * e1 ≤ e) (he40 : p2 (-40) ≤ e) (hk0 : ∀ x y R, k x y R = true → ab x 17592186044416 + ab y 17592186044416 + R ≤ 8796093022208) (h : cubK B M H OFF KS CZ b1 b2 bE c cH d E2 E1 E0 F1 F0 k x y R = true) (K : Cst B M H OFF KS CZ)
    (h1 : (b1 : Int) = B1 + 17592186044416) (h2 : (b2 : Int) = B2 + 17592186044416) (hbE : Rs B bE B1 B2) (hc : Rs B c Cx Cy) (hcH : Rs B cH (Cx + H) (Cy + H)) (hd : Rs B d Dx Dy)
    (w1 : -(2 : Int) ^ 36 ≤ B1 ∧ B1 ≤ (2 : Int) ^ 36) (w2 : -(2 : Int) ^ 36 ≤ B2 ∧ B2 ≤ (2 : Int) ^ 36) (w3 : -(2 : Int) ^ 70 ≤ Cx ∧ Cx ≤ (2 : Int) ^ 70) (w4 : -(2 : Int) ^ 70 ≤ Cy ∧ Cy ≤ (2 : Int) ^ 70)
    (w5 : -(2 : Int) ^ 104 ≤ Dx ∧ Dx ≤ (2 : Int) ^ 104) (w6 : -(2 : Int) ^ 104 ≤ Dy ∧ Dy ≤ (2 : Int) ^ 104)
    (fD : fC Dw) (fCw : fC Cw) (fB : fC Bw) (fL : fC Lw) (vL : cv Lw = one2) (vB : cv Bw = ⟨(B1 : Rat) * e, (B2 : Rat) * e⟩) (vC : cv Cw = ⟨(Cx : Rat) * (e * e), (Cy : Rat) * (e * e)⟩) (vD : cv Dw = ⟨(Dx : Rat) * (e * e * e), (Dy : Rat) * (e * e * e)⟩)
    (nB : N (cv Bw) ≤ be) (nC : N (cv Cw) ≤ ga) (nD : N (cv Dw) ≤ ka) (be1 : be ≤ 16) (ga1 : ga ≤ 32) (ka1 : ka ≤ 32)
    (hE2 : 5 * be + 1 / 64 ≤ (E2 : Rat) * e) (hE1 : 3 * ga + 1 / 64 ≤ (E1 : Rat) * (e * e)) (hE0 : ka + 1 / 64 ≤ (E0 : Rat) * (e * e * e)) (hF1 : 6 * be + 1 / 64 ≤ (F1 : Rat) * e) (hF0 : ga + 1 / 64 ≤ (F0 : Rat) * (e * e))
    (hz : fC z) (hb : N (cv z - cen e x y) ≤ (R : Rat) * e) :
    safeStep [Dw, Cw, Bw, Lw] z ∧ ∃ z', stepF [Dw, Cw, Bw, Lw] z = (z', true) ∧ fC z' ∧ ∃ x' y' R', k x' y' R' = true ∧ N (cv z' - cen e x' y') ≤ (R' : Rat) * e := by
  obtain ⟨X, Y, fx, fy, w, n, N1, s, q, t, es, ev, dd, core, x', y', hX, hY, hw, hw2, hn, n0, hN1, hs, hfx, hfy, hq, ht, hes, hev, hdd, hds, hcore, hx', hy', hk⟩ := cub_int (cubK_true h) K h1 h2 hbE hc hcH hd w1 w2 w3 w4 w5 w6
  clear h K h1 h2 hbE hc hcH hd w1 w2 w3 w4 w5 w6
  have be0 : 0 ≤ be := Rat.le_trans (N_nonneg _) nB
  have ga0 : 0 ≤ ga := Rat.le_trans (N_nonneg _) nC
  have be32 : be ≤ 32 := Rat.le_trans be1 (by decide +kernel)
  have e0' := Rat.le_of_lt e0
  have ee0 : 0 ≤ e * e := Rat.mul_nonneg e0' e0'
  rw [cen_is hX hY] at hb
  have wr : (w : Rat) = ((X.natAbs : Nat) : Rat) + ((Y.natAbs : Nat) : Rat) + (R : Rat) := by
    have : w = X.natAbs + Y.natAbs + R := by omega
    rw [this, Rat.natCast_add, Rat.natCast_add]
  have hr := hr_le hb (n_cen X Y e0') wr
  have wR : (w : Rat) ≤ 2199023255552 := by exact_mod_cast hw2
  have r1 := e_512 e0 e32 wR
  have r0 : 0 ≤ (w : Rat) * e := Rat.le_trans (N_nonneg _) hr
  have r41 : (w : Rat) * e ≤ p2 41 := Rat.le_trans r1 (by decide +kernel)
  obtain ⟨hrt, hv, C', B', L', hS, hSv, hC', hB', hL', eC, eB, eL⟩ := slope4 fD fCw fB fL vL (p100_of (Rat.le_trans nC ga1)) (p100_of (Rat.le_trans nB be32))
  have nB' : N (cv B') ≤ 2 * be := by rw [eB, N_two]; exact Rat.mul_le_mul_of_nonneg_left nB (by decide)
  have be2 : 2 * be ≤ 32 := be2_of be1
  have no : N one2 ≤ 1 := by decide +kernel
  have nt : N three2 ≤ 3 := by decide +kernel
  obtain ⟨s1, H1⟩ := eval4 hz hr r41 fL vL no (Rat.le_refl) fB nB be32 fCw nC ga1 fD nD ka1
  obtain ⟨s2, H2⟩ := eval3 hz hr r41 hL' eL nt (by decide +kernel) hB' nB' be2 hC' (by rw [eC]; exact nC) ga1
  have fv := H1.f
  have fs := H2.f
  have bv := bv_pure r0 r1 be0 be32 ga1 ka1 H1.le H1.err H1.P0
  have bs := bs_pure r0 r1 (be2_pos be0) be2 ga1 H2.le H2.err H2.P0
  have hvE : N (cv (nestedF [Dw, Cw, Bw, Lw] z) - cubV (cv z) (cv Bw) (cv Cw) (cv Dw)) ≤ ((ev : Rat) + 1) * (e * e) := Rat.le_trans H1.err (ev_pure r0 r1 be0 be32 ga0 ga1 ka1 hE2 hE1 hE0 (ev_nat e0 e32 hev))
  have hsE : N (cv (nestedF [C', B', L'] z) - cubS (cv z) (cv Bw) (cv Cw)) ≤ ((es : Rat) + 1) * e := by
    have a6 : cubS (cv z) (cv Bw) (cv Cw) = (three2 * cv z + cv B') * cv z + cv C' := by rw [eB, eC]; rfl
    rw [a6]
    exact Rat.le_trans H2.err (es_pure r0 r1 be0 be32 rfl ga0 ga1 hF1 hF0 (es_nat e0 e32 hes))
  clear H1 H2 hE2 hE1 hE0 hF1 hF0 hes hev
  obtain ⟨Q0, hQ0, nQ0, dQ0⟩ := quo_cen (e * e) e0 hn n0 hfx hfy hq
  have cV := cubV_int X Y B1 B2 Cx Cy Dx Dy e
  have cS := cubS_int X Y B1 B2 Cx Cy e
  rw [← vB, ← vC] at cS
  rw [← vB, ← vC, ← vD] at cV
  rw [← cV, ← cS] at hQ0
  have n0r : (0 : Rat) < (n : Rat) := by exact_mod_cast n0
  have nS : N (cubS ⟨(X : Rat) * e, (Y : Rat) * e⟩ (cv Bw) (cv Cw)) = (N1 : Rat) * (e * e) := by rw [cS]; exact nS_pure _ ee0 hN1
  have sS : sqN (cubS ⟨(X : Rat) * e, (Y : Rat) * e⟩ (cv Bw) (cv Cw)) = (n : Rat) * (e * e * (e * e)) := by rw [cS]; exact sS_pure _ hn
  have N1p := pos_of_sq sS (Rat.mul_pos n0r (Rat.mul_pos (Rat.mul_pos e0 e0) (Rat.mul_pos e0 e0)))
  have hg : (s : Rat) * e * N (cubS ⟨(X : Rat) * e, (Y : Rat) * e⟩ (cv Bw) (cv Cw)) ≤ sqN (cubS ⟨(X : Rat) * e, (Y : Rat) * e⟩ (cv Bw) (cv Cw)) := by
    rw [nS, sS]; exact hg_pure e0 e32 hs
  have ht' := ht_pure (X := X) (Y := Y) e0' vB ht
  have hdd' := dd_pure e0 e32 hdd
  obtain ⟨hlow, _⟩ := ball3_s hb ht' hsE hg N1p hdd'
  have hgd1 : ((dd : Rat) + 1) ≤ (s : Rat) := by
    have h2 : ((dd + 1 : Nat) : Rat) ≤ (s : Rat) := by exact_mod_cast (show dd + 1 ≤ s from hds)
    rw [Rat.natCast_add] at h2; exact h2
  have hgd : (dd : Rat) * e < (s : Rat) * e := Rat.mul_lt_mul_of_pos_right (by exact_mod_cast hds) e0
  have hlow2 : e ≤ N (cv (nestedF [C', B', L'] z)) := low_pure e0' hgd1 hlow
  obtain ⟨q', hq'⟩ := quo_ex (cv (nestedF [Dw, Cw, Bw, Lw] z)) (lt_of_e e0 hlow2)
  obtain ⟨hcore', _⟩ := ball3 hb ht' hvE hsE hq' hQ0 nQ0 hg N1p hdd' hgd (num_pure e0 e32 hds hcore) (Rat.le_refl)
  have nq' := nq_pure nQ0 hb hcore'
  have hk1 := hk0 _ _ _ hk
  have nq42 : N q' ≤ p2 42 := q42_pure e0 e32 (size_pure hw hw2 hq hx' hy' hk1) nq'
  obtain ⟨k3, z', k4, k5, k6⟩ := step_res hrt hv hS hSv hz fv fs s1 s2 bv bs (Rat.le_trans he40 hlow2) (Rat.le_trans hr r41) hq' nq42
  refine ⟨k3, z', k4, k5, x', y', _, hk, ?_⟩
  have hc' : cen e x' y' = (⟨(X : Rat) * e, (Y : Rat) * e⟩ : Q2) - ⟨(fx : Rat) * e, (fy : Rat) * e⟩ := by rw [cen_is hx' hy']; exact cen_sub X Y fx fy
  rw [hc']
  exact end_pure e0 k6 hcore' dQ0 hr nq' he1 rfl
end
end Go.Proofs.Ytalfkkagbajjcaa

/- Six Newton steps: safe from every number of a ball that the reckoning follows, and from every number of norm at most 2 ^ 41 where a step keeps that; then distances fit float32. Conditions: as told. -/
namespace Go.Proofs.Ytalfkkagbajjcaa
set_option linter.unusedSimpArgs false
set_option linter.unusedVariables false
open Go

/-- What is asked of the steps from a number. -/
def SafeFrom (F : List C2) (z : C2) : Prop := safePolish F 6 z ∧ fC (polishF F 6 z).1 ∧ N (cv (polishF F 6 z).1) ≤ p2 41
theorem fC0 : fC (0, 0) ∧ N (cv (0, 0)) ≤ p2 41 := by
  have h0 : FloatKind.f32.decode 0 = .number false 0 (-149) := by decide +kernel
  have h1 : fN .f32 0 = true := by unfold fN; rw [h0]; rfl
  have h2 : vN .f32 0 = 0 := by unfold vN; rw [h0]; decide +kernel
  refine ⟨⟨h1, h1⟩, ?_⟩
  show A (vN .f32 0) + A (vN .f32 0) ≤ p2 41
  rw [h2]; decide +kernel

theorem keep_polish {F : List C2} (h : ∀ z, fC z → N (cv z) ≤ p2 41 → safeStep F z ∧ ((stepF F z).2 = true → fC (stepF F z).1 ∧ N (cv (stepF F z).1) ≤ p2 41)) (n : Nat) :
    ∀ z, fC z → N (cv z) ≤ p2 41 → safePolish F n z ∧ fC (polishF F n z).1 ∧ N (cv (polishF F n z).1) ≤ p2 41 := by
  induction n with
  | zero => exact fun z h1 h2 => ⟨trivial, h1, h2⟩
  | succ n ih =>
    intro z h1 h2
    obtain ⟨a1, a2⟩ := h z h1 h2
    unfold safePolish polishF
    by_cases hs : (stepF F z).2 = true
    · obtain ⟨b1, b2⟩ := a2 hs
      obtain ⟨c1, c2⟩ := ih _ b1 b2
      rw [if_pos hs]
      exact ⟨⟨a1, fun _ => c1⟩, c2⟩
    · rw [if_neg hs]
      exact ⟨⟨a1, fun h => absurd h hs⟩, fC0⟩

def KGood (k : Nat → Nat → Nat → Bool) : Prop := ∀ x y R, k x y R = true → ab x 17592186044416 + ab y 17592186044416 + R ≤ 8796093022208
def iterK (f : (Nat → Nat → Nat → Bool) → Nat → Nat → Nat → Bool) : Nat → Nat → Nat → Nat → Bool
  | 0 => kFin
  | n + 1 => f (iterK f n)
theorem good_fin : KGood kFin := fun _ _ _ h => Nat.le_of_ble_eq_true h
theorem ball_polish {F : List C2} {f : (Nat → Nat → Nat → Bool) → Nat → Nat → Nat → Bool} {e : Rat} (e0 : 0 < e) (e32 : e * 4294967296 = 1) (hf : ∀ k, KGood (f k))
    (h : ∀ k x y R z, KGood k → f k x y R = true → fC z → N (cv z - cen e x y) ≤ (R : Rat) * e → safeStep F z ∧ ∃ z', stepF F z = (z', true) ∧ fC z' ∧ ∃ x' y' R', k x' y' R' = true ∧ N (cv z' - cen e x' y') ≤ (R' : Rat) * e)
    (n : Nat) : ∀ x y R z, iterK f n x y R = true → fC z → N (cv z - cen e x y) ≤ (R : Rat) * e → safePolish F n z ∧ fC (polishF F n z).1 ∧ N (cv (polishF F n z).1) ≤ p2 41 := by
  induction n with
  | zero =>
    intro x y R z hk h1 h2
    refine ⟨trivial, h1, ?_⟩
    show N (cv z) ≤ p2 41
    have g := good_fin x y R hk
    have a1 := N_tri (cv z) (cen e x y)
    have a2 : N (cen e x y) = (((ab x 17592186044416 : Nat) : Rat) + ((ab y 17592186044416 : Nat) : Rat)) * e := by
      rw [cen_is (X := (x : Int) - 17592186044416) (Y := (y : Int) - 17592186044416) (by omega) (by omega), n_cen _ _ (Rat.le_of_lt e0)]
      have b1 := ab_val x 17592186044416
      have b2 := ab_val y 17592186044416
      congr 2
      · congr 1; omega
      · congr 1; omega
    have a3 : ((ab x 17592186044416 : Nat) : Rat) + ((ab y 17592186044416 : Nat) : Rat) + (R : Rat) ≤ 8796093022208 := by
      have : ((ab x 17592186044416 + ab y 17592186044416 + R : Nat) : Rat) ≤ ((8796093022208 : Nat) : Rat) := by exact_mod_cast g
      rw [Rat.natCast_add, Rat.natCast_add] at this
      exact this
    have a4 := Rat.mul_le_mul_of_nonneg_right a3 (Rat.le_of_lt e0)
    have a5 : (8796093022208 : Rat) * e = 2048 := by
      rw [show (8796093022208 : Rat) = 2048 * 4294967296 by decide +kernel, Rat.mul_assoc, Rat.mul_comm _ e, e32]; decide +kernel
    have a6 : (2048 : Rat) ≤ p2 41 := by decide +kernel
    rw [a2] at a1
    rw [a5] at a4
    generalize p2 41 = t at *
    clear a5 e32 a3 g h h1 hk hf a2
    grind
  | succ n ih =>
    intro x y R z hk h1 h2
    have hg : KGood (iterK f n) := by cases n with
      | zero => exact good_fin
      | succ n => exact hf _
    obtain ⟨a1, z', a2, a3, x', y', R', a4, a5⟩ := h (iterK f n) x y R z hg hk h1 h2
    obtain ⟨b1, b2⟩ := ih x' y' R' z' a4 a3 a5
    unfold safePolish polishF
    rw [a2]
    exact ⟨⟨a1, fun _ => b1⟩, by rw [if_pos rfl]; exact b2⟩

theorem rootFrom_le (n : Nat) : ∀ todo root, root * root ≤ n → Ieee.Datum.rootFrom n todo root * Ieee.Datum.rootFrom n todo root ≤ n := by
  intro todo
  induction todo with
  | zero => exact fun root h => h
  | succ k ih =>
    intro root h
    unfold Ieee.Datum.rootFrom
    dsimp only
    split
    · rename_i h2; exact ih _ h2
    · exact ih _ h
theorem sq_le_sq {a b : Rat} (hb : 0 ≤ b) (h : a * a ≤ b * b) : a ≤ b := by
  rcases Rat.le_total (a := a) (b := b) with h1 | h1
  · exact h1
  · by_cases h0 : a = 0
    · rw [h0]; exact hb
    · have hp : 0 < a := by grind
      have := mul_le h1 (Rat.le_refl (a := a)) (Rat.le_of_lt hp) (Rat.le_of_lt hp)
      refine lcancel_le hp ?_
      have k := Rat.mul_le_mul_of_nonneg_left h1 hb
      grind
/-- Square roots fit. -/
theorem sqF_fit {y : Nat} (h : fN .f64 y = true) (hb : A (vN .f64 y) ≤ p2 90) : fit1 (sqF y) := by
  obtain ⟨s, m, i, hd⟩ := isNum_ex h
  have hv : A (vN .f64 y) = (m : Rat) * p2 i := by unfold vN; rw [hd, A_val]
  rw [hv] at hb
  have hq : sqF y = nrm .f64 (((Ieee.Datum.root 54 (.number s m i)).map FloatKind.f64.format.write).getD (qnan .f64)) := by
    unfold sqF Ieee.Format.sqrt
    rw [show FloatKind.f64.format.read y = .number s m i from hd]
    rfl
  rw [hq]
  unfold Ieee.Datum.root
  dsimp only
  have key : ∀ d : Ieee.Datum, isNum d = true → A (valD d) ≤ p2 60 → fit1 (nrm .f64 (((some d).map FloatKind.f64.format.write).getD (qnan .f64))) := by
    intro d h1 h2
    have h3 : p2 60 < p2 1023 := lt_of_p2 (Rat.le_refl (a := p2 60)) (by decide)
    obtain ⟨w1, w2, _⟩ := write_ok .f64 d h1 (show A (valD d) < p2 1023 by grind)
    have e1' : nrm .f64 (((some d).map FloatKind.f64.format.write).getD (qnan .f64)) = FloatKind.f64.encode d := fN_nrm w1
    rw [e1']
    refine (nw_ok w1 ?_).1
    have t1 := A_add (vN .f64 (FloatKind.f64.encode d) - valD d) (valD d)
    rw [show vN .f64 (FloatKind.f64.encode d) - valD d + valD d = vN .f64 (FloatKind.f64.encode d) by grind] at t1
    have u0 : uK .f64 ≤ 1 := by decide +kernel
    have u2 : eK .f64 ≤ 1 := by decide +kernel
    have u3 := Rat.mul_le_mul_of_nonneg_right u0 (A_nonneg (valD d))
    have u4 : 2 * p2 60 + 1 < p2 127 := by decide +kernel
    generalize uK .f64 = a at *
    generalize eK .f64 = b at *
    generalize p2 60 = c at *
    generalize p2 127 = g at *
    clear h3 hq hv hb
    grind
  by_cases hm : m = 0
  · rw [if_pos hm]
    refine key _ rfl ?_
    rw [A_val, hm, show ((0 : Nat) : Rat) = 0 from rfl]
    have := p2_pos 60
    grind
  · rw [if_neg hm]
    cases s
    · simp only [Bool.false_eq_true, if_false]
      generalize hmore : 2 * 54 - m.log2 + ((i - ((2 * 54 - m.log2 : Nat) : Int)) % 2).toNat = more
      obtain ⟨E, hE⟩ : ∃ E : Int, i - (more : Int) = 2 * E := ⟨(i - (more : Int)) / 2, by omega⟩
      have hE2 : (i - (more : Int)) / 2 - 1 = E - 1 := by omega
      have hwl := rootFrom_le (m <<< more) ((m <<< more).log2 / 2 + 1) 0 (by simp)
      generalize Ieee.Datum.rootFrom (m <<< more) ((m <<< more).log2 / 2 + 1) 0 = wh at *
      rw [hE2]
      refine key _ rfl ?_
      rw [A_val]
      have hst : ((2 * wh + (wh * wh != m <<< more).toNat : Nat) : Rat) ≤ 2 * (wh : Rat) + 1 := by
        have : 2 * wh + (wh * wh != m <<< more).toNat ≤ 2 * wh + 1 := by
          have := Bool.toNat_le (wh * wh != m <<< more); omega
        have h2 : ((2 * wh + (wh * wh != m <<< more).toNat : Nat) : Rat) ≤ ((2 * wh + 1 : Nat) : Rat) := by exact_mod_cast this
        rw [Rat.natCast_add (2 * wh) 1, Rat.natCast_mul] at h2
        exact h2
      rw [Nat.shiftLeft_eq] at hwl
      have hwl2 : ((wh : Nat) : Rat) * (wh : Rat) ≤ (m : Rat) * p2 (more : Int) := by
        rw [p2_nat, ← Rat.natCast_mul, ← Rat.natCast_mul]; exact_mod_cast hwl
      have m1 : (1 : Rat) ≤ (m : Rat) := by exact_mod_cast Nat.pos_of_ne_zero hm
      have pE := p2_pos E
      have p2E : p2 E * p2 E = p2 (i - (more : Int)) := by rw [← p2_add]; congr 1; omega
      have pim : p2 (more : Int) * p2 (i - (more : Int)) = p2 i := by rw [← p2_add]; congr 1; omega
      have p90 : p2 90 = p2 45 * p2 45 := by rw [← p2_add]; rfl
      have w1 : (wh : Rat) * p2 E ≤ p2 45 := by
        refine sq_le_sq (Rat.le_of_lt (p2_pos 45)) ?_
        rw [← p90]
        have a1 := Rat.mul_le_mul_of_nonneg_right hwl2 (Rat.le_of_lt (p2_pos (i - (more : Int))))
        have a2 : (wh : Rat) * p2 E * ((wh : Rat) * p2 E) = (wh : Rat) * (wh : Rat) * p2 (i - (more : Int)) := by rw [← p2E]; grind
        rw [Rat.mul_assoc (m : Rat), pim] at a1
        rw [a2]
        exact Rat.le_trans a1 hb
      have w2 : p2 E ≤ p2 45 := by
        refine sq_le_sq (Rat.le_of_lt (p2_pos 45)) ?_
        rw [← p90, p2E]
        have a1 : 1 * p2 i ≤ (m : Rat) * p2 i := Rat.mul_le_mul_of_nonneg_right m1 (Rat.le_of_lt (p2_pos i))
        have a3 : p2 (i - (more : Int)) ≤ p2 i := p2_mono (by omega)
        rw [Rat.one_mul] at a1
        exact Rat.le_trans a3 (Rat.le_trans a1 hb)
      have w3 : p2 E = p2 (E - 1) + p2 (E - 1) := p2_dbl (by omega)
      have w4 := Rat.mul_le_mul_of_nonneg_right hst (Rat.le_of_lt (p2_pos (E - 1)))
      have w5 : p2 45 + p2 45 ≤ p2 60 := by decide +kernel
      have w6 := p2_pos (E - 1)
      rw [w3] at w1 w2
      generalize p2 (E - 1) = x1 at *
      generalize p2 45 = x2 at *
      generalize p2 60 = x3 at *
      generalize ((2 * wh + (wh * wh != m <<< more).toNat : Nat) : Rat) = x4 at *
      generalize (wh : Rat) = x5 at *
      clear key hq hd hv hb hwl2 p2E pim p90 hst
      grind
    · simp only [if_true]
      show fit1 (nrm .f64 (qnan .f64))
      rw [nrm_qnan]
      unfold fit1
      decide +kernel
/-- Distances fit. -/
theorem dist_fit {a x : C2} (ha : fC a) (hx : fC x) (na : N (cv a) ≤ p2 41) (nx : N (cv x) ≤ p2 41) : fit1 (sqF (powerF (subC a x))) := by
  have h1 := N_sub (cv a) (cv x)
  have h2 : p2 41 + p2 41 = p2 42 := p2_two 41
  have h3 : N (cv a - cv x) ≤ p2 42 := by grind
  have hn := subC_near ha hx (lt_of_p2 h3 (by decide))
  have g := hn.2
  have t1 := N_tri (cv (subC a x)) (cv a - cv x)
  have u14 : u1 ≤ 1 := by decide +kernel
  have e14 : e1 ≤ 1 := by decide +kernel
  have u5 := Rat.mul_le_mul_of_nonneg_right u14 (N_nonneg (cv a - cv x))
  have h4 : p2 42 + (p2 42 + 1) ≤ p2 44 := by decide +kernel
  have h5 : N (cv (subC a x)) ≤ p2 44 := by
    generalize u1 = u at *
    generalize e1 = e at *
    generalize p2 42 = c at *
    generalize p2 44 = d at *
    clear h1 h2 na nx hn
    grind
  obtain ⟨w1, w2⟩ := powerF_ok hn.1 (lt_of_p2 h5 (by decide))
  refine sqF_fit w1 ?_
  have k1 := sqN_le (cv (subC a x))
  have k2 := mul_le h5 h5 (N_nonneg _) (Rat.le_of_lt (p2_pos 44))
  rw [← p2_add] at k2
  have k3 := sqN_nonneg (cv (subC a x))
  rw [A_of_nonneg k3] at w2
  have t2 := A_add (vN .f64 (powerF (subC a x)) - sqN (cv (subC a x))) (sqN (cv (subC a x)))
  rw [show vN .f64 (powerF (subC a x)) - sqN (cv (subC a x)) + sqN (cv (subC a x)) = vN .f64 (powerF (subC a x)) by grind, A_of_nonneg k3] at t2
  have m1 : p2 (-53) ≤ 1 := p2_small (by decide)
  have m2 : p2 (-1075) ≤ 1 := p2_small (by decide)
  have m3 := Rat.mul_le_mul_of_nonneg_right m1 k3
  have m4 : p2 (44 + 44) + (p2 (44 + 44) + 1) ≤ p2 90 := by decide +kernel
  generalize p2 (44 + 44) = c at *
  generalize p2 90 = d at *
  generalize p2 (-53) = f at *
  generalize p2 (-1075) = g at *
  clear h1 h2 h3 h4 h5 hn t1 u5 na nx
  grind
end Go.Proofs.Ytalfkkagbajjcaa

/- The reckoning for quadratics: a step, and all those whose second term has no imaginary part. Conditions: none, these are definitions. -/
namespace Go.Proofs.Ytalfkkagbajjcaa
set_option linter.unusedVariables false

def q5 (k : Nat → Nat → Nat → Bool) (x1 y1 R w qa qb q s es ev d : Nat) : Bool :=
  cond (Nat.ble s d) false (c8 k x1 y1 w qa qb (Nat.succ (Nat.div (Nat.add (Nat.add (Nat.mul (Nat.add (Nat.add R es) 1) R) (Nat.succ ev)) (Nat.mul q d)) (Nat.sub s d))) q R)
def q4 (k : Nat → Nat → Nat → Bool) (x1 y1 R w qa qb s es ev : Nat) : Bool :=
  cond (Nat.beq qa 0) false (cond (Nat.beq qb 0) false (cond (Nat.ble qa x1) (cond (Nat.ble qb y1)
    (q5 k x1 y1 R w qa qb (Nat.add (Nat.add (ab qa 17592186044416) (ab qb 17592186044416)) 2) s es ev (Nat.add (Nat.add R R) (Nat.succ es))) false) false))
def q3 (k : Nat → Nat → Nat → Bool) (B M H OFF E1 E0 F0 x y R w U n n44 N1 : Nat) : Bool :=
  q4 k (Nat.add x 17592186044416) (Nat.add y 17592186044416) R w (Nat.div (Nat.sub (Nat.add (Nat.mod U B) n44) H) n) (Nat.div (Nat.sub (Nat.add (Nat.div U B) n44) H) n)
    (Nat.div n N1) (Nat.shiftRight (Nat.add (Nat.mul 4 w) F0) 24) (Nat.shiftRight (Nat.add (Nat.mul (Nat.add (Nat.mul 4 w) E1) w) E0) 24)
def q2b (k : Nat → Nat → Nat → Bool) (B M H OFF E1 E0 F0 x y R w V Sb n N1 : Nat) : Bool :=
  q3 k B M H OFF E1 E0 F0 x y R w (Nat.mod (Nat.add (Nat.mul V Sb) OFF) M) n (Nat.shiftLeft n 44) N1
def q2 (k : Nat → Nat → Nat → Bool) (B M H OFF E1 E0 F0 x y R w V Sb na nb : Nat) : Bool :=
  q2b k B M H OFF E1 E0 F0 x y R w V Sb (Nat.add (Nat.mul na na) (Nat.mul nb nb)) (Nat.add na nb)
def q1 (k : Nat → Nat → Nat → Bool) (B M H OFF KS E1 E0 F0 x y R w V sa sb : Nat) : Bool :=
  q2 k B M H OFF E1 E0 F0 x y R w V (Nat.sub (Nat.add sa KS) (Nat.mul sb B)) (ab sa H) (ab sb H)
def q0c (k : Nat → Nat → Nat → Bool) (B M H OFF KS E1 E0 F0 x y R w V S : Nat) : Bool := q1 k B M H OFF KS E1 E0 F0 x y R w V (Nat.mod S B) (Nat.div S B)
def q0b (k : Nat → Nat → Nat → Bool) (B M H OFF KS bE c E1 E0 F0 x y R w Z : Nat) : Bool :=
  q0c k B M H OFF KS E1 E0 F0 x y R w (Nat.mod (Nat.add (Nat.mul (Nat.add Z bE) Z) c) M) (Nat.mod (Nat.add (Nat.add (Nat.add Z bE) Z) OFF) M)
def q0 (k : Nat → Nat → Nat → Bool) (B M H OFF KS CZ bE c E1 E0 F0 x y R w : Nat) : Bool :=
  cond (Nat.ble w 2199023255552) (q0b k B M H OFF KS bE c E1 E0 F0 x y R w (Nat.add x (Nat.add (Nat.mul y B) CZ))) false
/-- A step, for a quadratic. -/
def quaK (B M H OFF KS CZ bE c E1 E0 F0 : Nat) (k : Nat → Nat → Nat → Bool) (x y R : Nat) : Bool :=
  q0 k B M H OFF KS CZ bE c E1 E0 F0 x y R (Nat.add (Nat.add (ab x 17592186044416) (ab y 17592186044416)) R)
def qua2 (B M H OFF KS CZ b1 b2 e2 be ga : Nat) : Bool :=
  gridK (orbK (quaK B M H OFF KS CZ (Nat.add b1 (Nat.add (Nat.mul b2 B) CZ)) (Nat.shiftLeft e2 58)
    (Nat.add (Nat.mul be 1610612736) 67108864) (Nat.shiftLeft (Nat.add (Nat.mul ga 67108864) 67108864) 32) (Nat.add (Nat.mul be 536870912) 67108864)))
/-- sx, sy: the sums of the roots' parts in eighths, 32 added; e2H: the second term in 64ths, OFF added. -/
def qua1 (B M H OFF KS CZ sx sy e2 e2H : Nat) : Bool :=
  cond (Nat.beq sy 32) (qua2 B M H OFF KS CZ (Nat.sub 17609365913600 (Nat.mul sx 536870912)) (Nat.sub 17609365913600 (Nat.mul sy 536870912)) e2
    (Nat.add (ab sx 32) (ab sy 32)) (Nat.add (ab (Nat.mod e2H B) H) (ab (Nat.div e2H B) H))) true
def qua0 (B M H OFF KS CZ sx sy e2 : Nat) : Bool := qua1 B M H OFF KS CZ sx sy e2 (Nat.mod (Nat.add e2 OFF) M)
def qua3 (B M H OFF KS CZ C16 X1 Y1 X2 Y2 : Nat) : Bool := qua0 B M H OFF KS CZ (Nat.add X1 X2) (Nat.add Y1 Y2) (Nat.mod (Nat.mul (rootE B C16 X1 Y1) (rootE B C16 X2 Y2)) M)
def qua4 (B M H OFF KS CZ C16 : Nat) : Bool := all85 fun i => all85 fun j => qua3 B M H OFF KS CZ C16 (rootX 0 i) (rootY i) (rootX 1 j) (rootY j)
def quaAll : Bool := qua4 26959946667150639794667015087019630673637144422540572481103610249216 726838724295606890549323807888004534353641360687318060281490199180639288113397923326191050713763565560762521606266177933534601628614657 13479973333575319897333507543509815336818572211270286240551805124608 363419362147803445274661903944002267176820680343659030140745099590333124030032536982992858864425292595718079375344359253007852619431936 1090258086443410335823985711832006801530462041030977090422235298770945452196763309669389242563101838525806963837187996614061350637797377 726838724295606890549323807888004534353641360687318059807205801664592151658451168730605380146769708370298771300647913837104830437392385 1453677448591213781098647615776009068707282721374636120562980398360847217080121436415667429186134817030746848901771706707371545493241842
end Go.Proofs.Ytalfkkagbajjcaa
