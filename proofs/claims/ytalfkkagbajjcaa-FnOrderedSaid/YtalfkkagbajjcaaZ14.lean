/- Quadratics of two drawn roots whose second term has no imaginary part: safe from the points of the grid, by the reckoning. Conditions: the reckoning answers true. -/
import Derived.Test.YtalfkkagbajjcaaZ13
namespace Go.Proofs.Ytalfkkagbajjcaa
set_option linter.unusedSimpArgs false
set_option linter.unusedVariables false
open Go

theorem qE1_ok (be : Nat) : 3 * ((be : Rat) * p2 (-3)) + 1 / 64 ≤ ((be * 1610612736 + 67108864 : Nat) : Rat) * ee := by
  have h1 : (1610612736 : Rat) * ee = 3 * p2 (-3) := by decide +kernel
  have h2 : (67108864 : Rat) * ee = 1 / 64 := by decide +kernel
  rw [Rat.natCast_add, Rat.natCast_mul, show ((1610612736 : Nat) : Rat) = 1610612736 from rfl, show ((67108864 : Nat) : Rat) = 67108864 from rfl]
  generalize p2 (-3) = u at *
  generalize ee = e at *
  have : ((be : Rat) * 1610612736 + 67108864) * e = (be : Rat) * (1610612736 * e) + 67108864 * e := by grind
  rw [this, h1, h2]; grind
theorem qF0_ok (be : Nat) : (be : Rat) * p2 (-3) + 1 / 64 ≤ ((be * 536870912 + 67108864 : Nat) : Rat) * ee := by
  have h1 : (536870912 : Rat) * ee = p2 (-3) := by decide +kernel
  have h2 : (67108864 : Rat) * ee = 1 / 64 := by decide +kernel
  rw [Rat.natCast_add, Rat.natCast_mul, show ((536870912 : Nat) : Rat) = 536870912 from rfl, show ((67108864 : Nat) : Rat) = 67108864 from rfl]
  generalize p2 (-3) = u at *
  generalize ee = e at *
  have : ((be : Rat) * 536870912 + 67108864) * e = (be : Rat) * (536870912 * e) + 67108864 * e := by grind
  rw [this, h1, h2]; exact Rat.le_refl

section
variable {B M H OFF KS CZ C16 : Nat} {T1 T2 T3 z : C2} {e1x e1y e2x e2y : Int}
theorem quaB_core {b1 b2 e2 be ga : Nat} (K : Cst B M H OFF KS CZ) (h : qua2 B M H OFF KS CZ b1 b2 e2 be ga = true)
    (hb1 : (b1 : Int) = -e1x * 536870912 + 17592186044416) (hb2 : (b2 : Int) = -e1y * 536870912 + 17592186044416) (he2 : Rs B e2 e2x e2y)
    (hbe : (be : Int) = e1x.natAbs + e1y.natAbs) (hga : (ga : Int) = e2x.natAbs + e2y.natAbs) (be1 : be ≤ 128) (ga1 : ga ≤ 2048)
    (g1 : Gr T1 e2x e2y 6) (g2 : Gr T2 (-e1x) (-e1y) 3) (g3 : Gr T3 1 0 0) (hz : GridPt z) : SafeFrom [T1, T2, T3] z := by
  obtain ⟨fz, i, k, hi, hk, vz⟩ := hz
  unfold qua2 at h
  have hg := grid_true h hi hk
  rw [orb_iter] at hg
  refine ball_polish ee_pos ee_32 (fun k => KGood_qua k) ?_ 6 (gpx i) (gpy k) 0 z hg fz (GridPt.ball vz)
  intro k x y R z hgood hk hz hb
  have hbE : Rs B (b1 + (b2 * B + CZ)) (-e1x * 536870912) (-e1y * 536870912) := by
    obtain ⟨l, hl⟩ := K.hZ
    refine ⟨l, ?_⟩
    rw [Int.natCast_add, Int.natCast_add, Int.natCast_mul, hl, hb1, hb2]; grind
  have hc : Rs B (e2 <<< 58) (e2x * ((288230376151711744 : Nat) : Int)) (e2y * ((288230376151711744 : Nat) : Int)) := by have := he2.shl 58; rw [pow58] at this; exact this
  obtain ⟨u3, u6, _⟩ := ee_u
  have p3 : (((128 : Nat) : Rat)) * p2 (-3) ≤ 16 := by decide +kernel
  have p6 : (((2048 : Nat) : Rat)) * p2 (-6) ≤ 32 := by decide +kernel
  have n2 := gr_norm (n := be) g2 (by omega)
  have n1 := gr_norm (n := ga) g1 (by omega)
  have vL : cv T3 = one2 := g3.2.trans (q2e (by decide +kernel) (by decide +kernel))
  refine qua_step ee_pos ee_32 ee_small.1 ee_small.2 hgood hk K hbE hc ?_ ?_ ?_ ?_ g1.1 g2.1 g3.1 vL ?_ ?_ (le_of_eqQ n2) (le_of_eqQ n1)
    (nat_le_q be1 (Rat.le_of_lt (p2_pos _)) p3) (nat_le_q ga1 (Rat.le_of_lt (p2_pos _)) p6) (qE1_ok be) (F0_ok ga) (qF0_ok be) hz hb
  · have e : (2 : Int) ^ 36 = 68719476736 := by decide
    rw [e]; omega
  · have e : (2 : Int) ^ 36 = 68719476736 := by decide
    rw [e]; omega
  · have e : (2 : Int) ^ 70 = 4096 * ((288230376151711744 : Nat) : Int) := by decide
    rw [e]; omega
  · have e : (2 : Int) ^ 70 = 4096 * ((288230376151711744 : Nat) : Int) := by decide
    rw [e]; omega
  · exact g2.2.trans (q2e (dyc u3) (dyc u3))
  · exact g1.2.trans (q2e (dyc u6) (dyc u6))

theorem quaB {j1 j2 : Nat} {x1 y1 x2 y2 : Int} (K : Cst2 B M H OFF KS CZ C16) (h : qua4 B M H OFF KS CZ C16 = true) (hj1 : j1 < 85) (hj2 : j2 < 85)
    (hx1 : ((rootX 0 j1 : Nat) : Int) = x1 + 16) (hy1 : ((rootY j1 : Nat) : Int) = y1 + 16) (hx2 : ((rootX 1 j2 : Nat) : Int) = x2 + 16) (hy2 : ((rootY j2 : Nat) : Int) = y2 + 16)
    (r1 : -12 ≤ x1 ∧ x1 ≤ -8) (r2 : -4 ≤ x2 ∧ x2 ≤ 0) (s1 : -8 ≤ y1 ∧ y1 ≤ 8) (s2 : -8 ≤ y2 ∧ y2 ≤ 8) (hc : y1 + y2 = 0)
    (g1 : Gr T1 (x1 * x2 - y1 * y2) (x1 * y2 + y1 * x2) 6) (g2 : Gr T2 (-(x1 + x2)) (-(y1 + y2)) 3) (g3 : Gr T3 1 0 0) (hz : GridPt z) : SafeFrom [T1, T2, T3] z := by
  have h := all85_true (all85_true h hj1) hj2
  unfold qua3 qua0 qua1 at h
  have q1 := mulb (a := x1) (b := x2) (U := 12) (V := 4) (by omega) (by omega)
  have q2 := mulb (a := y1) (b := y2) (U := 8) (V := 8) (by omega) (by omega)
  have q3 := mulb (a := x1) (b := y2) (U := 12) (V := 8) (by omega) (by omega)
  have q4 := mulb (a := y1) (b := x2) (U := 8) (V := 4) (by omega) (by omega)
  have he2 := ((K.h16.root hx1 hy1).mul (K.h16.root hx2 hy2)).mod K.hM
  generalize hp : x1 * x2 - y1 * y2 = p at *
  generalize hq : x1 * y2 + y1 * x2 = q at *
  have bp : -112 ≤ p ∧ p ≤ 112 := by omega
  have bq : -128 ≤ q ∧ q ≤ 128 := by omega
  clear q1 q2 q3 q4
  obtain ⟨oc1, oc2⟩ := he2.off K.hO K.hM K.hB K.hH (Nat.lt_of_le_of_lt (show p.natAbs ≤ 512 by omega) (by decide)) (Nat.lt_of_le_of_lt (show q.natAbs ≤ 512 by omega) (by decide))
  have hsy : Nat.add (rootY j1) (rootY j2) = 32 := by rw [Nat.add_eq]; omega
  rw [hsy, show Nat.beq 32 32 = true from rfl, _root_.cond_true] at h
  have c3 := ab_val ((rootE B C16 (rootX 0 j1) (rootY j1) * rootE B C16 (rootX 1 j2) (rootY j2) % M + OFF) % M % B) H
  have c4 := ab_val ((rootE B C16 (rootX 0 j1) (rootY j1) * rootE B C16 (rootX 1 j2) (rootY j2) % M + OFF) % M / B) H
  have c1 := ab_val (Nat.add (rootX 0 j1) (rootX 1 j2)) 32
  rw [Nat.add_eq] at c1
  have hga : (Nat.add (ab (Nat.mod (Nat.mod (Nat.add (Nat.mod (Nat.mul (rootE B C16 (rootX 0 j1) (rootY j1)) (rootE B C16 (rootX 1 j2) (rootY j2))) M) OFF) M) B) H) (ab (Nat.div (Nat.mod (Nat.add (Nat.mod (Nat.mul (rootE B C16 (rootX 0 j1) (rootY j1)) (rootE B C16 (rootX 1 j2) (rootY j2))) M) OFF) M) B) H) : Nat) = p.natAbs + q.natAbs := by
    show (ab ((rootE B C16 (rootX 0 j1) (rootY j1) * rootE B C16 (rootX 1 j2) (rootY j2) % M + OFF) % M % B) H).add (ab ((rootE B C16 (rootX 0 j1) (rootY j1) * rootE B C16 (rootX 1 j2) (rootY j2) % M + OFF) % M / B) H) = _
    rw [Nat.add_eq]
    generalize (rootE B C16 (rootX 0 j1) (rootY j1) * rootE B C16 (rootX 1 j2) (rootY j2) % M + OFF) % M % B = u at *
    generalize (rootE B C16 (rootX 0 j1) (rootY j1) * rootE B C16 (rootX 1 j2) (rootY j2) % M + OFF) % M / B = v at *
    omega
  have hbe : (Nat.add (ab (Nat.add (rootX 0 j1) (rootX 1 j2)) 32) (ab 32 32) : Nat) = (x1 + x2).natAbs + (y1 + y2).natAbs := by
    have : ab 32 32 = 0 := rfl
    rw [this, Nat.add_eq, Nat.add_eq]; omega
  rw [hga, hbe] at h
  refine quaB_core (e1x := x1 + x2) (e1y := y1 + y2) K.toCst h ?_ ?_ he2 ?_ ?_ ?_ ?_ g1 g2 g3 hz
  · rw [Nat.sub_eq, Nat.mul_eq, Nat.add_eq]; omega
  · rw [Nat.sub_eq, Nat.mul_eq]; omega
  · omega
  · omega
  · omega
  · omega
end
end Go.Proofs.Ytalfkkagbajjcaa
