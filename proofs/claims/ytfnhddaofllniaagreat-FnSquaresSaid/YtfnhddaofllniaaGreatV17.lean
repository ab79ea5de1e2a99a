/- Newton's step of float32 for a polynomial near one of its simple roots, in the bounds of its scaled displacement. Conditions: the computed value and slope are near the exact ones. -/
import Derived.Test.YtfnhddaofllniaaGreatV16
namespace Go.Proofs.YtfnhddaofllniaaGreat
open Go
set_option linter.unusedSimpArgs false
set_option linter.unusedVariables false

/-- Bounds of one step. -/
structure StN (c f g mu Mu Ev Es d r t ep den Qb : Rat) : Prop where
  den1 : den ≤ 1 - (2 * (c * d) + 3 * (f * (d * d)) + 4 * (g * (d * (d * d))))
  den0 : 0 < den
  q : 2 * (3 / 2 * r + Ev) ≤ Qb * (mu * den - Es)
  q0 : 0 ≤ Qb ∧ Qb ≤ 2
  s0 : 1 / 1048576 ≤ mu * den - Es
  tt : r + ep ≤ t * den
  t0 : 0 ≤ t
  e : Ev + Qb * Es + 3 / 2000000 * Mu ≤ ep
  big : 0 ≤ r ∧ r ≤ 1 ∧ Ev ≤ 1 ∧ Es ≤ 1 ∧ 0 ≤ Es ∧ 0 ≤ Ev ∧ Mu ≤ 100 ∧ 0 ≤ mu
theorem N_addle {x y : Q2} {E : Rat} (h : N (x - y) ≤ E) : N x ≤ N y + E := Rat.le_trans (N_tri x y) (by grind)
theorem N_ge {x y : Q2} {E : Rat} (h : N (x - y) ≤ E) : N y - E ≤ N x := by
  have := N_tri y x
  rw [N_comm y x] at this
  grind
theorem near_ap2 {r : C2} {x : Q2} {B : Rat} (h : Near r x) (hB : N x ≤ B) : N (cv r - x) ≤ 61 / 1000000000 * B + 1 / 1000000000000 := by
  have a : u1 ≤ 61 / 1000000000 := by decide +kernel
  have b : e1 ≤ 1 / 1000000000000 := by decide +kernel
  have c := mul_le a hB (N_nonneg x) (by decide +kernel)
  have d := h.2
  generalize u1 = u at *
  generalize e1 = e at *
  grind
theorem fol_step {C E F D h M0 rt : Q2} {c f g mu Mu Ev Es d r t ep den Qb : Rat} {z v s : C2} (B : StN c f g mu Mu Ev Es d r t ep den Qb) (hz : fC z) (nz : N (cv z) ≤ 25 / 8) (hD : D = M0 * (cv z - rt))
    (hv : Nr v (lV C E F D h) Ev) (hs : Nr s (M0 * (one2 + lW C E F D)) Es) (hC : Ab C c) (hE : Ab E f) (hF : Ab F g) (bD : Ab D d) (bV : Ab (lV C E F D h) r) (lM : Lb M0 mu) (uM : Ab M0 Mu) :
    quoFit v s ∧ fC (quoC v s) ∧ fC (subC z (quoC v s)) ∧ Ab (M0 * (cv (subC z (quoC v s)) - rt)) (d + t) ∧
    Ab (lV C E F (M0 * (cv (subC z (quoC v s)) - rt)) h) ((c + 3 * (f * d) + 6 * (g * (d * d))) * (t * t) + (f + 4 * (g * d)) * (t * (t * t)) + g * (t * t * (t * t)) + ep) := by
  obtain ⟨r0, r1, v1, s1, s0', v0, mu1, mu0⟩ := B.big
  have W := lW_ab hC hE hF bD
  have hw1 : (2 * (c * d) + 3 * (f * (d * d)) + 4 * (g * (d * (d * d)))) < 1 := by have := B.den1; have := B.den0; grind
  generalize hT : M0 * (one2 + lW C E F D) = T at *
  generalize hV : lV C E F D h = V at *
  -- the slope's size
  have l1 : Lb (one2 + lW C E F D) den := ⟨Rat.le_of_lt B.den0, Rat.le_trans (mul_le B.den1 B.den1 (Rat.le_of_lt B.den0) (by have := B.den1; have := B.den0; grind)) (one_add_ge W (Rat.le_of_lt hw1))⟩
  have l2 : mu * den ≤ N T := by have := (lM.mul l1).N; rwa [hT] at this
  have u2 : N T ≤ 3 * Mu := by
    have a : Ab (one2 + lW C E F D) 2 := ((show Ab one2 1 from ⟨by decide +kernel, by decide +kernel⟩).add W).mono (by grind)
    have b := (uM.mul a).N
    rw [hT] at b
    have := uM.1
    grind
  have S1 := N_ge hs.2
  have S2 := N_addle hs.2
  have V1 := N_addle hv.2
  have V2 := bV.N
  have sl : 1 / 1048576 ≤ N (cv s) := by have := B.s0; grind
  have sp : 0 < N (cv s) := pos_of (by decide +kernel) sl
  obtain ⟨q, hq⟩ := quo_ex (cv v) sp
  have q1 := quo_le hq
  have q2 : N q ≤ Qb := by
    have a : N q * (mu * den - Es) ≤ N q * N (cv s) := Rat.mul_le_mul_of_nonneg_left (by grind) (N_nonneg q)
    have b : N q * (mu * den - Es) ≤ Qb * (mu * den - Es) := by have := B.q; grind
    have p : 0 < mu * den - Es := pos_of (by decide +kernel) B.s0
    exact lcancel_le p b
  have qb := B.q0
  have vb : N (cv v) ≤ 1073741824 := by grind
  have sb : N (cv s) ≤ 1073741824 := by grind
  obtain ⟨qf, qn⟩ := quoC_near hv.1 hs.1 hq (big30 vb (by decide)) (big30 sb (by decide)) (Rat.le_trans (by decide +kernel) sl) (big30 (show N q ≤ 1073741824 by grind) (by decide))
  have qn2 := near_ap2 qn q2
  have qw := N_addle qn2
  have zq := N_sub (cv z) (cv (quoC v s))
  have zq2 : N (cv z - cv (quoC v s)) ≤ 6 := by grind
  have sn := subC_near hz qn.1 (big30 (show N (cv z - cv (quoC v s)) ≤ 1073741824 by grind) (by decide))
  have sn2 := near_ap2 sn zq2
  -- what the step leaves
  obtain ⟨e0, he0⟩ : ∃ e0, (M0 * (cv z - cv (subC z (quoC v s)))) * (one2 + lW C E F D) = V + e0 := ⟨(M0 * (cv z - cv (subC z (quoC v s)))) * (one2 + lW C E F D) - V, q2e (by simp; grind) (by simp; grind)⟩
  have hT2 : (M0 * (cv z - cv (subC z (quoC v s)))) * (one2 + lW C E F D) = (cv z - cv (subC z (quoC v s))) * T := by
    rw [← hT]
    generalize one2 + lW C E F D = y
    exact q2e (by simp; grind) (by simp; grind)
  rw [hT2] at he0
  have e1' : e0 = (cv v - V) - q * (cv s - T) + ((cv z - cv (quoC v s) - cv (subC z (quoC v s))) + (cv (quoC v s) - q)) * T := by
    have h1 := congrArg Q2.re he0
    have h2 := congrArg Q2.im he0
    have h3 := congrArg Q2.re hq
    have h4 := congrArg Q2.im hq
    simp only [re_mul, im_mul, re_sub, im_sub, re_add, im_add] at h1 h2 h3 h4
    refine q2e ?_ ?_
    · simp only [re_mul, im_mul, re_sub, im_sub, re_add, im_add]; grind
    · simp only [re_mul, im_mul, re_sub, im_sub, re_add, im_add]; grind
  have n1 := N_add ((cv v - V) - q * (cv s - T)) (((cv z - cv (quoC v s) - cv (subC z (quoC v s))) + (cv (quoC v s) - q)) * T)
  rw [← e1'] at n1
  have n2 := N_sub (cv v - V) (q * (cv s - T))
  have n3 := N_mul q (cv s - T)
  have n4 := N_mul ((cv z - cv (quoC v s) - cv (subC z (quoC v s))) + (cv (quoC v s) - q)) T
  have n5 := N_add (cv z - cv (quoC v s) - cv (subC z (quoC v s))) (cv (quoC v s) - q)
  have n6 : N (cv z - cv (quoC v s) - cv (subC z (quoC v s))) ≤ 61 / 1000000000 * 6 + 1 / 1000000000000 := by rw [N_comm]; exact sn2
  have n7 : N q * N (cv s - T) ≤ Qb * Es := mul_le q2 hs.2 (N_nonneg _) qb.1
  have n8 : N ((cv z - cv (quoC v s) - cv (subC z (quoC v s))) + (cv (quoC v s) - q)) ≤ 1 / 2000000 := by grind
  have n9 := mul_le n8 u2 (N_nonneg _) (by decide +kernel)
  have hne : N e0 ≤ ep := by
    have := B.e
    have := hv.2
    grind
  have R := newt_ab (k := M0 * (cv z - cv (subC z (quoC v s)))) (h := h) (by rw [hT2, hV]; exact he0) hC hE hF bD (by rw [hV]; exact bV) (Ab.of_N hne) B.den1 B.den0 B.tt B.t0
  have eD : D - M0 * (cv z - cv (subC z (quoC v s))) = M0 * (cv (subC z (quoC v s)) - rt) := by
    rw [hD]
    exact q2e (by simp; grind) (by simp; grind)
  rw [eD] at R
  exact ⟨qf, qn.1, sn.1, R.2.1, R.2.2⟩
end Go.Proofs.YtfnhddaofllniaaGreat

/- Twelve steps of Newton near a simple root, a constant growing by 1/64 each three: tables of bounds. Conditions: none. -/
namespace Go.Proofs.YtfnhddaofllniaaGreat
open Go
set_option linter.unusedSimpArgs false
set_option linter.unusedVariables false

def gd (l : List Rat) (j : Nat) : Rat := l.getD j 0
/-- The tables' rows fit. -/
def Tb (c f g mu Mu Ev Es ep : Rat) (d r t n q : List Rat) : Prop := (0 = gd d 0 ∧ 1 / 64 ≤ gd r 0) ∧ ∀ j, j < 12 →
  (gd n j ≤ 1 - (2 * (c * gd d j) + 3 * (f * (gd d j * gd d j)) + 4 * (g * (gd d j * (gd d j * gd d j)))) ∧ 0 < gd n j ∧ 2 * (3 / 2 * gd r j + Ev) ≤ gd q j * (mu * gd n j - Es) ∧ (0 ≤ gd q j ∧ gd q j ≤ 2) ∧ 1 / 1048576 ≤ mu * gd n j - Es ∧
  gd r j + ep ≤ gd t j * gd n j ∧ 0 ≤ gd t j ∧ Ev + gd q j * Es + 3 / 2000000 * Mu ≤ ep ∧ (0 ≤ gd r j ∧ gd r j ≤ 1 ∧ Ev ≤ 1 ∧ Es ≤ 1 ∧ 0 ≤ Es ∧ 0 ≤ Ev ∧ Mu ≤ 100 ∧ 0 ≤ mu)) ∧
  (gd d j + gd t j ≤ gd d (j + 1) ∧ (c + 3 * (f * gd d j) + 6 * (g * (gd d j * gd d j))) * (gd t j * gd t j) + (f + 4 * (g * gd d j)) * (gd t j * (gd t j * gd t j)) + g * (gd t j * gd t j * (gd t j * gd t j)) + ep + (if (j + 1) % 3 = 0 then (if j = 11 then 0 else 1 / 64) else 0) ≤ gd r (j + 1))
instance (c f g mu Mu Ev Es ep : Rat) (d r t n q : List Rat) : Decidable (Tb c f g mu Mu Ev Es ep d r t n q) := by unfold Tb; infer_instance
theorem Tb.st {c f g mu Mu Ev Es ep : Rat} {d r t n q : List Rat} (h : Tb c f g mu Mu Ev Es ep d r t n q) {j : Nat} (hj : j < 12) : StN c f g mu Mu Ev Es (gd d j) (gd r j) (gd t j) ep (gd n j) (gd q j) := by
  obtain ⟨a1, a2, a3, a4, a5, a6, a7, a8, a9⟩ := (h.2 j hj).1
  exact ⟨a1, a2, a3, a4, a5, a6, a7, a8, a9⟩
def T1d : List Rat := [0, 3127 / 200000, 3131 / 200000, 627 / 40000, 783 / 25000, 1567 / 50000, 98 / 3125, 9401 / 200000, 1881 / 40000, 9409 / 200000, 6269 / 100000, 6271 / 100000, 6273 / 100000]
def T1r : List Rat := [1 / 64, 1 / 100000, 1 / 100000, 3127 / 200000, 1 / 100000, 1 / 100000, 3127 / 200000, 1 / 100000, 1 / 100000, 3127 / 200000, 1 / 100000, 1 / 100000, 1 / 100000]
def T1t : List Rat := [3127 / 200000, 1 / 50000, 1 / 50000, 3129 / 200000, 1 / 50000, 1 / 50000, 3129 / 200000, 1 / 50000, 1 / 50000, 3129 / 200000, 1 / 50000, 1 / 50000]
def T1n : List Rat := [1, 1, 1, 1, 1, 1, 1, 1, 1, 1, 1, 1]
def T1q : List Rat := [468769 / 10000000, 319 / 10000000, 319 / 10000000, 469069 / 10000000, 319 / 10000000, 319 / 10000000, 469069 / 10000000, 319 / 10000000, 319 / 10000000, 469069 / 10000000, 319 / 10000000, 319 / 10000000]
theorem T1_ok : Tb (0) (0) (0) (1) (1) (909 / 1000000000) (0) (1 / 100000) T1d T1r T1t T1n T1q := by decide +kernel
def T2d : List Rat := [0, 7821 / 500000, 41999 / 2500000, 42113 / 2500000, 349433 / 10000000, 368091 / 10000000, 92193 / 2500000, 590893 / 10000000, 78621 / 1250000, 31541 / 500000, 236737 / 2500000, 278309 / 2500000, 7609 / 62500]
def T2r : List Rat := [1 / 64, 9957 / 10000000, 7 / 312500, 156421 / 10000000, 1659 / 1250000, 31 / 1000000, 156421 / 10000000, 9953 / 5000000, 3 / 40000, 78211 / 5000000, 8029 / 2000000, 11231 / 10000000, 2257 / 5000000]
def T2t : List Rat := [7821 / 500000, 1447 / 1250000, 57 / 1250000, 180981 / 10000000, 9329 / 5000000, 681 / 10000000, 222121 / 10000000, 1523 / 400000, 463 / 2500000, 9879 / 312500, 10393 / 625000, 26051 / 2500000]
def T2n : List Rat := [1, 54679 / 62500, 270501 / 312500, 270387 / 312500, 900567 / 1250000, 881909 / 1250000, 220307 / 312500, 659107 / 1250000, 77629 / 156250, 30959 / 62500, 75763 / 312500, 34191 / 312500]
def T2q : List Rat := [58617 / 625000, 34353 / 5000000, 247 / 1250000, 1085133 / 10000000, 347 / 31250, 631 / 2000000, 1331807 / 10000000, 28401 / 1250000, 4897 / 5000000, 189547 / 1000000, 995053 / 10000000, 154819 / 2500000]
theorem T2_ok : Tb (4) (0) (0) (1 / 2) (5 / 2) (4573 / 500000000) (31 / 10000000) (17 / 1000000) T2d T2r T2t T2n T2q := by decide +kernel
def T3ed : List Rat := [0, 629 / 40000, 16953 / 1000000, 85937 / 5000000, 70519 / 2000000, 371709 / 10000000, 187329 / 5000000, 148341 / 2500000, 78811 / 1250000, 635361 / 10000000, 235003 / 2500000, 217673 / 2000000, 1168567 / 10000000]
def T3er : List Rat := [1 / 64, 1977 / 2000000, 33 / 312500, 157253 / 10000000, 411 / 312500, 57 / 500000, 78627 / 5000000, 1953 / 1000000, 31 / 200000, 7863 / 500000, 2429 / 625000, 5187 / 5000000, 1899 / 5000000]
def T3et : List Rat := [629 / 40000, 307 / 250000, 293 / 1250000, 180721 / 10000000, 9557 / 5000000, 2949 / 10000000, 109353 / 5000000, 9281 / 2500000, 4873 / 10000000, 304651 / 10000000, 148353 / 10000000, 40101 / 5000000]
def T3en : List Rat := [1, 8864193 / 10000000, 1754803 / 2000000, 4378389 / 5000000, 29617 / 40000, 7258483 / 10000000, 7235947 / 10000000, 2765077 / 5000000, 1308463 / 2500000, 5194813 / 10000000, 671779 / 2500000, 1418177 / 10000000]
def T3eq : List Rat := [626529 / 10000000, 46307 / 10000000, 653 / 1000000, 11251 / 156250, 571 / 78125, 8357 / 10000000, 435709 / 5000000, 143993 / 10000000, 14723 / 10000000, 242777 / 2000000, 292103 / 5000000, 303293 / 10000000]
theorem T3e_ok : Tb (32 / 9) (64 / 27) (0) (3 / 4) (81 / 10) (11287 / 200000000) (27977 / 1000000000) (1 / 10000) T3ed T3er T3et T3en T3eq := by decide +kernel
def T3md : List Rat := [0, 629 / 40000, 83189 / 5000000, 84299 / 5000000, 171197 / 5000000, 11129 / 312500, 179361 / 5000000, 558199 / 10000000, 582459 / 10000000, 292987 / 5000000, 209247 / 2500000, 451173 / 5000000, 456591 / 5000000]
def T3mr : List Rat := [1 / 64, 737 / 1000000, 8 / 78125, 39313 / 2500000, 10043 / 10000000, 531 / 5000000, 157253 / 10000000, 1481 / 1000000, 49 / 400000, 31451 / 2000000, 6641 / 2500000, 2927 / 10000000, 211 / 2000000]
def T3mt : List Rat := [629 / 40000, 1141 / 1250000, 111 / 500000, 43449 / 2500000, 6867 / 5000000, 1297 / 5000000, 199477 / 10000000, 1213 / 500000, 703 / 2000000, 125507 / 5000000, 32679 / 5000000, 2709 / 2500000]
def T3mn : List Rat := [1, 573133 / 625000, 9118311 / 10000000, 9105649 / 10000000, 2010227 / 2500000, 7950587 / 10000000, 3966713 / 5000000, 3258509 / 5000000, 633173 / 1000000, 126093 / 200000, 4217441 / 10000000, 906089 / 2500000]
def T3mq : List Rat := [93981 / 1000000, 50687 / 10000000, 1843 / 2000000, 1038727 / 10000000, 77753 / 10000000, 2171 / 2000000, 47689 / 400000, 139827 / 10000000, 607 / 400000, 375069 / 2500000, 9583 / 250000, 54693 / 10000000]
theorem T3m_ok : Tb (49 / 20) (8) (0) (1 / 2) (63 / 10) (11287 / 200000000) (27977 / 1000000000) (1 / 10000) T3md T3mr T3mt T3mn T3mq := by decide +kernel
def T4ed : List Rat := [0, 641 / 40000, 86589 / 5000000, 2839 / 156250, 356499 / 10000000, 74291 / 2000000, 2379 / 62500, 568999 / 10000000, 146637 / 2500000, 596613 / 10000000, 25087 / 312500, 824329 / 10000000, 167127 / 2000000]
def T4er : List Rat := [1 / 64, 8241 / 10000000, 1007 / 2500000, 160263 / 10000000, 9167 / 10000000, 4039 / 10000000, 32053 / 2000000, 10153 / 10000000, 811 / 2000000, 40067 / 2500000, 1447 / 1250000, 817 / 2000000, 503 / 1250000]
def T4et : List Rat := [641 / 40000, 101 / 78125, 4259 / 5000000, 174803 / 10000000, 3739 / 2500000, 1837 / 2000000, 188359 / 10000000, 17549 / 10000000, 2013 / 2000000, 206171 / 10000000, 4309 / 2000000, 5653 / 5000000]
def T4en : List Rat := [1, 2367243 / 2500000, 9425659 / 10000000, 4698541 / 5000000, 880383 / 1000000, 8752467 / 10000000, 2180219 / 2500000, 806503 / 1000000, 2000787 / 2500000, 1593519 / 2000000, 1807417 / 2500000, 1430297 / 2000000]
def T4eq : List Rat := [63233 / 2500000, 17001 / 10000000, 9927 / 10000000, 55199 / 2000000, 156 / 78125, 1071 / 1000000, 297401 / 10000000, 11877 / 5000000, 2349 / 2000000, 325527 / 10000000, 1853 / 625000, 13211 / 10000000]
theorem T4e_ok : Tb (41 / 25) (7 / 10) (9 / 100) (15 / 8) (33) (136421 / 500000000) (158327 / 1000000000) (1 / 2500) T4ed T4er T4et T4en T4eq := by decide +kernel
def T4md : List Rat := [0, 641 / 40000, 176323 / 10000000, 185233 / 10000000, 5743 / 156250, 48731 / 1250000, 400317 / 10000000, 306493 / 5000000, 40577 / 625000, 663237 / 10000000, 46983 / 500000, 259099 / 2500000, 538061 / 5000000]
def T4mr : List Rat := [1 / 64, 5353 / 5000000, 509 / 1250000, 160273 / 10000000, 13681 / 10000000, 1039 / 2500000, 32057 / 2000000, 9423 / 5000000, 2233 / 5000000, 160321 / 10000000, 1643 / 500000, 3953 / 5000000, 2341 / 5000000]
def T4mt : List Rat := [641 / 40000, 16073 / 10000000, 891 / 1000000, 182319 / 10000000, 2787 / 1250000, 10469 / 10000000, 212669 / 10000000, 18123 / 5000000, 2801 / 2000000, 276423 / 10000000, 3023 / 312500, 19863 / 5000000]
def T4mn : List Rat := [1, 9149939 / 10000000, 9060289 / 10000000, 4505121 / 5000000, 3965219 / 5000000, 1947743 / 2500000, 7724919 / 10000000, 3151601 / 5000000, 1511351 / 2500000, 2972281 / 5000000, 3810377 / 10000000, 2997061 / 10000000]
def T4mq : List Rat := [63241 / 1000000, 54767 / 10000000, 13007 / 5000000, 719759 / 10000000, 78201 / 10000000, 6137 / 2000000, 209903 / 2500000, 8199 / 625000, 13 / 3125, 545701 / 5000000, 1457 / 40000, 25977 / 2000000]
theorem T4m_ok : Tb (253 / 100) (251 / 50) (317 / 100) (3 / 4) (21) (136421 / 500000000) (158327 / 1000000000) (1 / 2500) T4md T4mr T4mt T4mn T4mq := by decide +kernel
/-- The local polynomial's coefficients. -/
structure Cof (M0 IM C0 E0 F0 : Q2) (c f g mu Mu be : Rat) : Prop where
  c : Ab C0 c
  f : Ab E0 f
  g : Ab F0 g
  l : Lb M0 mu
  u : Ab M0 Mu
  i : IM * M0 = one2
  b : Ab IM be
/-- The polynomial with a constant h added, near its root rt. -/
structure Loc (F S : List C2) (M0 C0 E0 F0 rt h : Q2) (Ev Es : Rat) : Prop where
  r : rootedF F = true
  v : validF F = true
  p : slopePolyF F = (S, true)
  vs : validF S = true
  ev : ∀ z, fC z → N (cv z) ≤ 25 / 8 → safeN F z ∧ safeN S z ∧ Nr (nestedF F z) (lV C0 E0 F0 (M0 * (cv z - rt)) h) Ev ∧ Nr (nestedF S z) (M0 * (one2 + lW C0 E0 F0 (M0 * (cv z - rt)))) Es
section
variable {F S : List C2} {M0 IM C0 E0 F0 rt h : Q2} {c f g mu Mu be Ev Es ep : Rat} {d r t n q : List Rat}
/-- The state ahead of step j. -/
structure At (M0 C0 E0 F0 rt h : Q2) (dj rj : Rat) (z : C2) : Prop where
  f : fC z
  d : Ab (M0 * (cv z - rt)) dj
  v : Ab (lV C0 E0 F0 (M0 * (cv z - rt)) h) rj
theorem At.near (K : Cof M0 IM C0 E0 F0 c f g mu Mu be) {z : C2} {dj rj : Rat} (a : At M0 C0 E0 F0 rt h dj rj z) (hb : N rt + 3 / 2 * (be * dj) ≤ 25 / 8) : N (cv z) ≤ 25 / 8 := by
  have e : cv z - rt = IM * (M0 * (cv z - rt)) := by
    have := mul_assoc2 IM M0 (cv z - rt)
    rw [K.i, one_mul2] at this
    exact this
  have b := (K.b.mul a.d).N
  rw [← e] at b
  have := N_tri (cv z) rt
  grind
theorem fol_one (L : Loc F S M0 C0 E0 F0 rt h Ev Es) (K : Cof M0 IM C0 E0 F0 c f g mu Mu be) {dj rj tj nj qj d' r' : Rat} (B : StN c f g mu Mu Ev Es dj rj tj ep nj qj) {z : C2} (a : At M0 C0 E0 F0 rt h dj rj z) (hb : N rt + 3 / 2 * (be * dj) ≤ 25 / 8)
    (hd : dj + tj ≤ d') (hr : (c + 3 * (f * dj) + 6 * (g * (dj * dj))) * (tj * tj) + (f + 4 * (g * dj)) * (tj * (tj * tj)) + g * (tj * tj * (tj * tj)) + ep ≤ r') :
    safeStep F z ∧ ∃ z', stepF F z = (z', true) ∧ At M0 C0 E0 F0 rt h d' r' z' := by
  have nzz := a.near K hb
  obtain ⟨s1, s2, v1, v2⟩ := L.ev z a.f nzz
  obtain ⟨q1, q2, q3, q4, q5⟩ := fol_step B a.f nzz rfl v1 v2 K.c K.f K.g a.d a.v K.l K.u
  have fz := (fC_iff z).1 a.f
  have pv : polyAtF F z = (nestedF F z, true) := by unfold polyAtF finiteX; rw [if_pos ⟨L.v, fz⟩, if_pos ((fC_iff _).1 v1.1)]
  have ps : polyAtF S z = (nestedF S z, true) := by unfold polyAtF finiteX; rw [if_pos ⟨L.vs, fz⟩, if_pos ((fC_iff _).1 v2.1)]
  refine ⟨⟨s1, by rw [L.p]; exact s2, by rw [L.p, pv, ps]; exact q1⟩, ?_⟩
  unfold stepF
  rw [L.r, fz, pv]
  dsimp only
  rw [if_pos (by rfl), if_pos rfl]
  cases hz : zeroC (nestedF F z) with
  | true =>
    rw [if_pos rfl]
    refine ⟨z, rfl, a.f, a.d.mono (by have := B.t0; grind), ?_⟩
    obtain ⟨x, y⟩ := (zeroC_iff ((fC_iff _).1 v1.1)).1 hz
    have e : cv (nestedF F z) = zero2 := q2e x y
    have n1 := v1.2
    rw [e, N_comm, show lV C0 E0 F0 (M0 * (cv z - rt)) h - zero2 = lV C0 E0 F0 (M0 * (cv z - rt)) h from q2e (by simp [zero2]; try grind) (by simp [zero2]; try grind)] at n1
    refine (Ab.of_N n1).mono ?_
    have e1 := B.e
    have w1 := K.c.1; have w2 := K.f.1; have w3 := K.g.1; have w4 := a.d.1; have w5 := B.t0; have w6 := K.u.1
    have w7 := Rat.mul_nonneg B.q0.1 B.big.2.2.2.2.1
    have x1 := Rat.mul_nonneg w5 w5
    have x2 := Rat.mul_nonneg w5 x1
    have x3 := Rat.mul_nonneg x1 x1
    have x4 := Rat.mul_nonneg w4 w4
    have y1 := Rat.mul_nonneg (show 0 ≤ c + 3 * (f * dj) + 6 * (g * (dj * dj)) by have := Rat.mul_nonneg w2 w4; have := Rat.mul_nonneg w3 x4; grind) x1
    have y2 := Rat.mul_nonneg (show 0 ≤ f + 4 * (g * dj) by have := Rat.mul_nonneg w3 w4; grind) x2
    have y3 := Rat.mul_nonneg w3 x3
    grind
  | false =>
    rw [if_neg (by decide), L.p]
    dsimp only
    rw [if_pos rfl, ps]
    dsimp only
    rw [(fC_iff _).1 q2, if_pos (by rfl)]
    unfold finiteX
    rw [if_pos ((fC_iff _).1 q3)]
    exact ⟨_, rfl, q3, q4.mono hd, q5.mono hr⟩
/-- Three steps. -/
theorem fol_three (L : Loc F S M0 C0 E0 F0 rt h Ev Es) (K : Cof M0 IM C0 E0 F0 c f g mu Mu be) (B : Tb c f g mu Mu Ev Es ep d r t n q) (hb : N rt + 3 / 2 * (be * gd d 12) ≤ 25 / 8) (hm : ∀ j, j < 12 → gd d j ≤ gd d 12) {k : Nat} (hk : k < 4) {z : C2}
    (a : At M0 C0 E0 F0 rt h (gd d (3 * k)) (gd r (3 * k)) z) : safePolish F 3 z ∧ ∃ z', polishF F 3 z = (z', true) ∧ At M0 C0 E0 F0 rt h (gd d (3 * (k + 1))) (gd r (3 * (k + 1)) - (if k = 3 then 0 else 1 / 64)) z' := by
  have hbj : ∀ j, j < 12 → N rt + 3 / 2 * (be * gd d j) ≤ 25 / 8 := fun j hj => by
    have := Rat.mul_le_mul_of_nonneg_left (hm j hj) K.b.1
    grind
  have r1 := (B.2 (3 * k) (by omega)).2
  have r2 := (B.2 (3 * k + 1) (by omega)).2
  have r3 := (B.2 (3 * k + 2) (by omega)).2
  rw [if_neg (by omega)] at r1 r2
  rw [if_pos (by omega)] at r3
  obtain ⟨s1, z1, e1, a1⟩ := fol_one L K (B.st (by omega)) a (hbj _ (by omega)) r1.1 (r' := gd r (3 * k + 1)) (by have := r1.2; rwa [Rat.add_zero] at this)
  obtain ⟨s2, z2, e2, a2⟩ := fol_one L K (B.st (by omega)) a1 (hbj _ (by omega)) r2.1 (r' := gd r (3 * k + 1 + 1)) (by have := r2.2; rwa [Rat.add_zero] at this)
  obtain ⟨s3, z3, e3, a3⟩ := fol_one L K (B.st (by omega)) a2 (hbj _ (by omega)) r3.1 (show _ ≤ gd r (3 * (k + 1)) - (if k = 3 then 0 else 1 / 64) by
    have e : (if 3 * k + 2 = 11 then (0 : Rat) else 1 / 64) = if k = 3 then 0 else 1 / 64 := by
      by_cases h3 : k = 3
      · rw [if_pos h3, if_pos (by omega)]
      · rw [if_neg h3, if_neg (by omega)]
    have := r3.2
    rw [e] at this
    rw [show 3 * (k + 1) = 3 * k + 2 + 1 by omega]
    generalize gd r (3 * k + 2 + 1) = y at *
    generalize (if k = 3 then (0 : Rat) else 1 / 64) = w at *
    clear r1 r2 r3 hbj hb hm B
    grind)
  refine ⟨⟨s1, fun _ => ?_⟩, z3, ?_, a3⟩
  · rw [e1]
    refine ⟨s2, fun _ => ?_⟩
    rw [e2]
    exact ⟨s3, fun _ => trivial⟩
  · unfold polishF
    rw [e1, if_pos rfl]
    unfold polishF
    rw [e2, if_pos rfl]
    unfold polishF
    rw [e3, if_pos rfl]
    rfl
end
end Go.Proofs.YtfnhddaofllniaaGreat

/- The polynomial of up to four roots in the distance from one of them, scaled; the bounds of its coefficients. Conditions: roots as they are drawn. -/
namespace Go.Proofs.YtfnhddaofllniaaGreat
open Go
set_option linter.unusedSimpArgs false
set_option linter.unusedVariables false

section
variable (X : Nat → Int × Int) (z : Q2)
def gq (X : Nat → Int × Int) (z : Q2) (j : Nat) : Q2 := z - rq X j
theorem glev1 : v1 (cq X 1 0) (cq X 1 1) z = (VV (gq X z) 1).1 ∧ cq X 1 1 = (VV (gq X z) 1).2.1 := by
  have e0 : cq X 0 0 = one2 := cq_top X 0
  have e1 : cq X 1 1 = one2 := cq_top X 1
  have e2 := cq_low X 0
  rw [e0] at e2
  rw [e1, e2]
  refine ⟨q2e ?_ ?_, q2e ?_ ?_⟩ <;> (simp [VV, v1, gq, one2, zero2]; try grind)
theorem glev2 : v2 (cq X 2 0) (cq X 2 1) (cq X 2 2) z = (VV (gq X z) 2).1 ∧ v1 (cq X 2 1) (sc 2 (cq X 2 2)) z = (VV (gq X z) 2).2.1 := by
  obtain ⟨a, b⟩ := glev1 X z
  obtain ⟨u, v, _⟩ := up1 (cq X 1 0) (cq X 1 1) z (rq X 1)
  rw [cq_low, cq_up X 1 0, cq_same X 1]
  refine ⟨?_, ?_⟩
  · rw [u, a]; rfl
  · rw [v, a]; conv => lhs; rw [b]
    rfl
theorem glev3 : v3 (cq X 3 0) (cq X 3 1) (cq X 3 2) (cq X 3 3) z = (VV (gq X z) 3).1 ∧ v2 (cq X 3 1) (sc 2 (cq X 3 2)) (sc 3 (cq X 3 3)) z = (VV (gq X z) 3).2.1 := by
  obtain ⟨a, b⟩ := glev2 X z
  obtain ⟨u, v, _⟩ := up2 (cq X 2 0) (cq X 2 1) (cq X 2 2) z (rq X 2)
  rw [cq_low, cq_up X 2 0, cq_up X 2 1, cq_same X 2]
  exact ⟨by rw [u, a]; rfl, by rw [v, a, b]; rfl⟩
theorem glev4 : v4 (cq X 4 0) (cq X 4 1) (cq X 4 2) (cq X 4 3) (cq X 4 4) z = (VV (gq X z) 4).1 ∧ v3 (cq X 4 1) (sc 2 (cq X 4 2)) (sc 3 (cq X 4 3)) (sc 4 (cq X 4 4)) z = (VV (gq X z) 4).2.1 := by
  obtain ⟨a, b⟩ := glev3 X z
  obtain ⟨u, v, _⟩ := up3 (cq X 3 0) (cq X 3 1) (cq X 3 2) (cq X 3 3) z (rq X 3)
  rw [cq_low, cq_up X 3 0, cq_up X 3 1, cq_up X 3 2, cq_same X 3]
  exact ⟨by rw [u, a]; rfl, by rw [v, a, b]; rfl⟩
end
/-- The value and the slope in the distance d from a root. -/
def lP (M c2 c3 c4 d : Q2) : Q2 := M * d + c2 * (d * d) + c3 * (d * (d * d)) + c4 * (d * d * (d * d))
def lS (M c2 c3 c4 d : Q2) : Q2 := M + sc 2 (c2 * d) + sc 3 (c3 * (d * d)) + sc 4 (c4 * (d * (d * d)))
theorem lV_of {P M c2 c3 c4 d h : Q2} (H : P * M = one2) : lV (P * P * c2) (P * (P * P) * c3) (P * P * (P * P) * c4) (M * d) h = lP M c2 c3 c4 d + h := by
  have a1 : P * P * c2 * (M * d * (M * d)) = (P * M) * (P * M) * (c2 * (d * d)) := q2e (by simp; grind) (by simp; grind)
  have a2 : P * (P * P) * c3 * (M * d * (M * d * (M * d))) = (P * M) * ((P * M) * (P * M)) * (c3 * (d * (d * d))) := by
    have b : M * d * (M * d * (M * d)) = M * (M * M) * (d * (d * d)) := q2e (by simp; grind) (by simp; grind)
    have b2 : (P * M) * ((P * M) * (P * M)) = P * (P * P) * (M * (M * M)) := q2e (by simp; grind) (by simp; grind)
    rw [b, b2]
    generalize P * (P * P) = p
    generalize M * (M * M) = m
    generalize d * (d * d) = t
    exact q2e (by simp; grind) (by simp; grind)
  have a3 : P * P * (P * P) * c4 * (M * d * (M * d) * (M * d * (M * d))) = (P * M) * (P * M) * ((P * M) * (P * M)) * (c4 * (d * d * (d * d))) := by
    have b : M * d * (M * d) = M * M * (d * d) := q2e (by simp; grind) (by simp; grind)
    have b2 : (P * M) * (P * M) = P * P * (M * M) := q2e (by simp; grind) (by simp; grind)
    rw [b, b2]
    generalize P * P = p
    generalize M * M = m
    generalize d * d = t
    have c1 : m * t * (m * t) = m * m * (t * t) := q2e (by simp; grind) (by simp; grind)
    have c2' : p * m * (p * m) = p * p * (m * m) := q2e (by simp; grind) (by simp; grind)
    rw [c1, c2']
    generalize p * p = p
    generalize m * m = m
    generalize t * t = t
    exact q2e (by simp; grind) (by simp; grind)
  unfold lV lP
  rw [a1, a2, a3, H]
  simp only [one_mul2]
theorem lS_of {P M c2 c3 c4 d : Q2} (H : P * M = one2) : M * (one2 + lW (P * P * c2) (P * (P * P) * c3) (P * P * (P * P) * c4) (M * d)) = lS M c2 c3 c4 d := by
  have a1 : M * sc 2 (P * P * c2 * (M * d)) = (P * M) * (P * M) * sc 2 (c2 * d) := q2e (by simp; grind) (by simp; grind)
  have a2 : M * sc 3 (P * (P * P) * c3 * (M * d * (M * d))) = (P * M) * ((P * M) * (P * M)) * sc 3 (c3 * (d * d)) := by
    have b : M * d * (M * d) = M * M * (d * d) := q2e (by simp; grind) (by simp; grind)
    have b2 : (P * M) * ((P * M) * (P * M)) = P * (P * P) * (M * (M * M)) := q2e (by simp; grind) (by simp; grind)
    have b3 : M * sc 3 (P * (P * P) * c3 * (M * M * (d * d))) = P * (P * P) * (M * (M * M)) * sc 3 (c3 * (d * d)) := by
      generalize P * (P * P) = p
      generalize hm : M * M = m
      generalize d * d = t
      exact q2e (by simp; grind) (by simp; grind)
    rw [b, b2, b3]
  have a3 : M * sc 4 (P * P * (P * P) * c4 * (M * d * (M * d * (M * d)))) = (P * M) * (P * M) * ((P * M) * (P * M)) * sc 4 (c4 * (d * (d * d))) := by
    have b : M * d * (M * d * (M * d)) = M * (M * M) * (d * (d * d)) := q2e (by simp; grind) (by simp; grind)
    have b2 : (P * M) * (P * M) = P * P * (M * M) := q2e (by simp; grind) (by simp; grind)
    rw [b, b2]
    generalize P * P = p
    generalize hm : M * M = m
    generalize d * (d * d) = t
    have b4 : p * m * (p * m) = p * p * (m * m) := q2e (by simp; grind) (by simp; grind)
    rw [b4]
    have b5 : m * m = M * (M * m) := by rw [← hm]; exact q2e (by simp; grind) (by simp; grind)
    rw [b5]
    generalize p * p = p
    generalize M * m = m
    exact q2e (by simp; grind) (by simp; grind)
  have e : M * (one2 + lW (P * P * c2) (P * (P * P) * c3) (P * P * (P * P) * c4) (M * d)) = M + M * sc 2 (P * P * c2 * (M * d)) + M * sc 3 (P * (P * P) * c3 * (M * d * (M * d))) + M * sc 4 (P * P * (P * P) * c4 * (M * d * (M * d * (M * d)))) := by
    unfold lW
    generalize sc 2 _ = x
    generalize sc 3 _ = y
    generalize sc 4 _ = w
    exact q2e (by simp [one2]; grind) (by simp [one2]; grind)
  rw [e, a1, a2, a3, H]
  unfold lS
  simp only [one_mul2]
section
variable (d a b c e : Q2)
/-- Products of distances, in d. -/
theorem pr1 : (VV (fun j => d + (if j = 0 then a else zero2)) 1).1 = a + d ∧ (VV (fun j => d + (if j = 0 then a else zero2)) 1).2.1 = one2 := by
  refine ⟨q2e ?_ ?_, q2e ?_ ?_⟩ <;> (simp [VV, one2, zero2]; try grind)
theorem pr2 : (VV (fun j => d + (if j = 0 then a else b)) 2).1 = a * b + lP (a + b) one2 zero2 zero2 d ∧ (VV (fun j => d + (if j = 0 then a else b)) 2).2.1 = lS (a + b) one2 zero2 zero2 d := by
  refine ⟨q2e ?_ ?_, q2e ?_ ?_⟩ <;> (simp [VV, lP, lS, one2, zero2]; try grind)
theorem pr3 : (VV (fun j => d + (if j = 0 then a else if j = 1 then b else c)) 3).1 = a * (b * c) + lP (a * b + a * c + b * c) (a + b + c) one2 zero2 d ∧
    (VV (fun j => d + (if j = 0 then a else if j = 1 then b else c)) 3).2.1 = lS (a * b + a * c + b * c) (a + b + c) one2 zero2 d := by
  refine ⟨q2e ?_ ?_, q2e ?_ ?_⟩ <;> (simp [VV, lP, lS, one2, zero2]; try grind)
theorem pr4 : (VV (fun j => d + (if j = 0 then a else if j = 1 then b else if j = 2 then c else e)) 4).1 = a * b * (c * e) + lP (a * b * c + a * b * e + a * c * e + b * c * e) (a * b + a * c + a * e + b * c + b * e + c * e) (a + b + c + e) one2 d ∧
    (VV (fun j => d + (if j = 0 then a else if j = 1 then b else if j = 2 then c else e)) 4).2.1 = lS (a * b * c + a * b * e + a * c * e + b * c * e) (a * b + a * c + a * e + b * c + b * e + c * e) (a + b + c + e) one2 d := by
  refine ⟨q2e ?_ ?_, q2e ?_ ?_⟩ <;> (simp [VV, lP, lS, one2, zero2]; try grind)
end
end Go.Proofs.YtfnhddaofllniaaGreat
