/- The computed values beside a drawn root: near the exact ones. Conditions: up to four roots as they are drawn. -/
import Derived.Test.YtfnhddaofllniaaGreatV12
import Derived.Test.YtfnhddaofllniaaGreatV11
namespace Go.Proofs.YtfnhddaofllniaaGreat
open Go
set_option linter.unusedSimpArgs false
set_option linter.unusedVariables false

theorem kf4 : fN .f32 (kf 4) = true ∧ vN .f32 (kf 4) = 4 := kf_val (m := 8388608) (e := -21) (by decide +kernel) (by decide +kernel)
theorem Gr.scale {w : C2} {a b : Int} {j c : Nat} (h : Gr w a b j) (hk : fN .f32 (kf c) = true ∧ vN .f32 (kf c) = (c : Rat)) (ha : ((c : Int) * a).natAbs < 2 ^ 24) (hb : ((c : Int) * b).natAbs < 2 ^ 24) (hj : j ≤ 100) : Gr (scaleC w (kf c)) ((c : Int) * a) ((c : Int) * b) j := by
  obtain ⟨⟨x1, x2⟩, x3, x4⟩ := h.parts
  have h25 : p2 ((24 : Nat) : Int) ≤ p2 127 := p2_mono (by decide)
  have e1' : vN .f32 w.1 * vN .f32 (kf c) = (((c : Int) * a : Int) : Rat) * p2 (-(j : Int)) := by rw [x2, hk.2, Rat.intCast_mul, Rat.intCast_natCast]; grind
  have e2' : vN .f32 w.2 * vN .f32 (kf c) = (((c : Int) * b : Int) : Rat) * p2 (-(j : Int)) := by rw [x4, hk.2, Rat.intCast_mul, Rat.intCast_natCast]; grind
  have l1 := dy_lt (j := j) ha
  have l2 := dy_lt (j := j) hb
  have R1 := fop_mul_res (k := .f32) x1 hk.1 (by rw [e1']; show _ < p2 127; grind)
  have R2 := fop_mul_res (k := .f32) x3 hk.1 (by rw [e2']; show _ < p2 127; grind)
  exact ⟨⟨R1.1, R2.1⟩, q2e ((exact32 R1 e1' ha hj).trans e1') ((exact32 R2 e2' hb hj).trans e2')⟩

/-- A term of the polynomial, or some times it. -/
def TK (X : Nat → Int × Int) (n : Nat) (W : C2) (c k : Nat) : Prop := Gr W ((c : Int) * (cz X n k).1) ((c : Int) * (cz X n k).2) (3 * (n - k))
theorem TK.f {X : Nat → Int × Int} {n : Nat} {W : C2} {c k : Nat} (h : TK X n W c k) : fC W := h.1
theorem TK.v {X : Nat → Int × Int} {n : Nat} {W : C2} {c k : Nat} (h : TK X n W c k) (hk : k ≤ n) : cv W = sc c (cq X n k) := by
  rw [h.2]
  unfold cq
  have : (-((3 * (n - k) : Nat) : Int)) = 3 * ((k : Int) - (n : Int)) := by omega
  rw [this]
  refine q2e ?_ ?_ <;> (simp [Rat.intCast_mul, Rat.intCast_natCast]; grind)
theorem TK.le {X : Nat → Int × Int} {n : Nat} {W : C2} {c k : Nat} (h : TK X n W c k) (hX : ∀ j, j < n → nz (X j) ≤ nb j) {B : Rat} (hB : ((c * bt n k : Nat) : Rat) * p2 (-((3 * (n - k) : Nat) : Int)) ≤ B) : N (cv W) ≤ B := by
  refine gr_le h (c * bt n k) ?_ hB
  have h1 := cz_bt hX n k (Nat.le_refl _)
  have h2 : c * nz (cz X n k) ≤ c * bt n k := Nat.mul_le_mul_left _ h1
  rw [Int.natAbs_mul, Int.natAbs_mul, ← Nat.mul_add]
  exact h2
theorem TK.scale {X : Nat → Int × Int} {n : Nat} {W : C2} {c k : Nat} (h : TK X n W c k) (hX : ∀ j, j < n → nz (X j) ≤ nb j) {c' : Nat} (hk : fN .f32 (kf c') = true ∧ vN .f32 (kf c') = (c' : Rat)) (hB : c' * (c * bt n k) < 2 ^ 24) (hn : n ≤ 30) : TK X n (scaleC W (kf c')) (c' * c) k := by
  have h1 := cz_bt hX n k (Nat.le_refl _)
  have h2 : c' * (c * nz (cz X n k)) ≤ c' * (c * bt n k) := Nat.mul_le_mul_left _ (Nat.mul_le_mul_left _ h1)
  have h3 := Gr.scale h hk (by rw [Int.natAbs_mul, Int.natAbs_mul]; refine Nat.lt_of_le_of_lt ?_ hB; refine Nat.le_trans ?_ h2; exact Nat.mul_le_mul_left _ (Nat.mul_le_mul_left _ (by unfold nz; omega)))
    (by rw [Int.natAbs_mul, Int.natAbs_mul]; refine Nat.lt_of_le_of_lt ?_ hB; refine Nat.le_trans ?_ h2; exact Nat.mul_le_mul_left _ (Nat.mul_le_mul_left _ (by unfold nz; omega))) (by omega)
  unfold TK
  rw [show (((c' * c : Nat) : Int)) = (c' : Int) * (c : Int) from Int.natCast_mul _ _, Int.mul_assoc, Int.mul_assoc]
  exact h3
theorem TK.top {X : Nat → Int × Int} {n : Nat} {W : C2} {c : Nat} (h : TK X n W c n) (hc : c ≠ 0) : finC W = true ∧ zeroC W = false := by
  refine fin_not_zero h.f rfl ?_
  rw [h.v (Nat.le_refl _), cq_top]
  show (c : Rat) * 1 ≠ 0
  rw [Rat.mul_one]
  exact_mod_cast hc
theorem TK.fin {X : Nat → Int × Int} {n : Nat} {W : C2} {c k : Nat} (h : TK X n W c k) : finC W = true := (fC_iff W).1 h.f

/-- The computed values of a polynomial, of its slope, of the slope of this. -/
structure EV (F S S2 : List C2) (z : C2) (v s t : Q2) (Ev Es Et : Rat) : Prop where
  r : rootedF F = true
  vF : validF F = true
  pS : slopePolyF F = (S, true)
  vS : validF S = true
  pT : slopePolyF S = (S2, true)
  vT : validF S2 = true
  lS : 1 ≤ S.length ∧ S.length ≤ 5
  lT : 1 ≤ S2.length ∧ S2.length ≤ 5
  sF : safeN F z
  sS : safeN S z
  sT : safeN S2 z
  nv : Nr (nestedF F z) v Ev
  ns : Nr (nestedF S z) s Es
  nt : Nr (nestedF S2 z) t Et
theorem sc_one (c : Q2) : sc ((1 : Nat) : Rat) c = c := q2e (by simp) (by simp)
theorem v0_zero : fC (0, 0) ∧ cv (0, 0) = zero2 := ⟨fC0.1, q2e (by decide +kernel) (by decide +kernel)⟩
theorem ev1 {X : Nat → Int × Int} (hX : ∀ j, j < 1 → nz (X j) ≤ nb j) {i : Nat} {z : C2} (hz : fC z) (ez : cv z = zq X i) (hr : N (cv z) ≤ 193 / 64) {T0 T1 : C2} (h0 : TK X 1 T0 1 0) (h1 : TK X 1 T1 1 1) :
    ∃ S S2, EV [T0, T1] S S2 z (VV (dq X i) 1).1 (VV (dq X i) 1).2.1 (VV (dq X i) 1).2.2 (897 / 1000000000 : Rat) (0 : Rat) (0 : Rat) := by
  have s1 : TK X 1 (scaleC T1 (kf 1)) 1 1 := by have := h1.scale hX kf1 (by decide) (by decide); exact this
  obtain ⟨f1, f2⟩ := h1.top (by decide)
  obtain ⟨g1, g2⟩ := s1.top (by decide)
  obtain ⟨p1, p2'⟩ := poly_of (F := [T0, T1]) (by simp) (by simp [f1, h0.fin]) (by simpa using f2)
  obtain ⟨q1, q2⟩ := poly_one (x := scaleC T1 (kf 1)) g1
  obtain ⟨r1, r2⟩ := poly_one (x := ((0, 0) : C2)) ((fC_iff _).1 v0_zero.1)
  obtain ⟨a1, a2⟩ := chV1 hz hr h1.f (h1.le hX (by decide +kernel)) h0.f (h0.le hX (by decide +kernel))
  have lev := lev1 X i
  refine ⟨[scaleC T1 (kf 1)], [(0, 0)], ⟨?_, p1, ?_, q1, ?_, r1, ⟨by simp, by simp⟩, ⟨by simp, by simp⟩, a1, ?_, ?_, ?_, ?_, ?_⟩⟩
  · unfold rootedF; rw [p1]; rfl
  · unfold slopePolyF; rw [if_pos p1]; exact q2
  · unfold slopePolyF; rw [if_pos q1]; exact r2
  · exact trivial
  · exact trivial
  · have := a2.nr (E := (897 / 1000000000 : Rat)) (by decide +kernel)
    rw [h0.v (by decide), h1.v (by decide), ez] at this
    simp only [sc_one] at this
    rw [← lev.1]; exact this
  · have := nr_exact s1.f (s1.v (by decide))
    rw [sc_one] at this
    rw [← lev.2.1]; exact this
  · have := nr_exact v0_zero.1 v0_zero.2
    rw [← lev.2.2]; exact this
theorem ev2 {X : Nat → Int × Int} (hX : ∀ j, j < 2 → nz (X j) ≤ nb j) {i : Nat} {z : C2} (hz : fC z) (ez : cv z = zq X i) (hr : N (cv z) ≤ 193 / 64) {T0 T1 T2 : C2} (h0 : TK X 2 T0 1 0) (h1 : TK X 2 T1 1 1) (h2 : TK X 2 T2 1 2) :
    ∃ S S2, EV [T0, T1, T2] S S2 z (VV (dq X i) 2).1 (VV (dq X i) 2).2.1 (VV (dq X i) 2).2.2 (8811 / 1000000000 : Rat) (381 / 125000000 : Rat) (0 : Rat) := by
  have s1 : TK X 2 (scaleC T1 (kf 1)) 1 1 := by have := h1.scale hX kf1 (by decide) (by decide); exact this
  have s2 : TK X 2 (scaleC T2 (kf 2)) 2 2 := by have := h2.scale hX kf2 (by decide) (by decide); exact this
  have t2 : TK X 2 (scaleC (scaleC T2 (kf 2)) (kf 1)) 2 2 := by have := s2.scale hX kf1 (by decide) (by decide); exact this
  obtain ⟨f1, f2⟩ := h2.top (by decide)
  obtain ⟨g1, g2⟩ := s2.top (by decide)
  obtain ⟨j1, j2⟩ := t2.top (by decide)
  obtain ⟨p1, p2'⟩ := poly_of (F := [T0, T1, T2]) (by simp) (by simp [f1, h0.fin, h1.fin]) (by simpa using f2)
  obtain ⟨q1, q2⟩ := poly_of (F := [scaleC T1 (kf 1), scaleC T2 (kf 2)]) (by simp) (by simp [g1, s1.fin]) (by simpa using g2)
  obtain ⟨r1, r2⟩ := poly_one (x := scaleC (scaleC T2 (kf 2)) (kf 1)) j1
  obtain ⟨a1, a2⟩ := chV2 hz hr h2.f (h2.le hX (by decide +kernel)) h1.f (h1.le hX (by decide +kernel)) h0.f (h0.le hX (by decide +kernel))
  have lev := lev2 X i
  refine ⟨[scaleC T1 (kf 1), scaleC T2 (kf 2)], [scaleC (scaleC T2 (kf 2)) (kf 1)], ⟨?_, p1, ?_, q1, ?_, r1, ⟨by simp, by simp⟩, ⟨by simp, by simp⟩, a1, ?_, ?_, ?_, ?_, ?_⟩⟩
  · unfold rootedF; rw [p1]; rfl
  · unfold slopePolyF; rw [if_pos p1]; exact q2
  · unfold slopePolyF; rw [if_pos q1]; exact r2
  · exact (chS1 hz hr s2.f (s2.le hX (by decide +kernel)) s1.f (s1.le hX (by decide +kernel))).1
  · exact trivial
  · have := a2.nr (E := (8811 / 1000000000 : Rat)) (by decide +kernel)
    rw [h0.v (by decide), h1.v (by decide), h2.v (by decide), ez] at this
    simp only [sc_one] at this
    rw [← lev.1]; exact this
  · have := (chS1 hz hr s2.f (s2.le hX (by decide +kernel)) s1.f (s1.le hX (by decide +kernel))).2.nr (E := (381 / 125000000 : Rat)) (by decide +kernel)
    rw [s1.v (by decide), s2.v (by decide), ez] at this
    simp only [sc_one] at this
    rw [← lev.2.1]; exact this
  · have := nr_exact t2.f (t2.v (by decide))
    rw [← lev.2.2]; exact this
theorem ev3 {X : Nat → Int × Int} (hX : ∀ j, j < 3 → nz (X j) ≤ nb j) {i : Nat} {z : C2} (hz : fC z) (ez : cv z = zq X i) (hr : N (cv z) ≤ 193 / 64) {T0 T1 T2 T3 : C2} (h0 : TK X 3 T0 1 0) (h1 : TK X 3 T1 1 1) (h2 : TK X 3 T2 1 2) (h3 : TK X 3 T3 1 3) :
    ∃ S S2, EV [T0, T1, T2, T3] S S2 z (VV (dq X i) 3).1 (VV (dq X i) 3).2.1 (VV (dq X i) 3).2.2 (26473 / 500000000 : Rat) (6703 / 250000000 : Rat) (3767 / 500000000 : Rat) := by
  have s1 : TK X 3 (scaleC T1 (kf 1)) 1 1 := by have := h1.scale hX kf1 (by decide) (by decide); exact this
  have s2 : TK X 3 (scaleC T2 (kf 2)) 2 2 := by have := h2.scale hX kf2 (by decide) (by decide); exact this
  have s3 : TK X 3 (scaleC T3 (kf 3)) 3 3 := by have := h3.scale hX kf3 (by decide) (by decide); exact this
  have t2 : TK X 3 (scaleC (scaleC T2 (kf 2)) (kf 1)) 2 2 := by have := s2.scale hX kf1 (by decide) (by decide); exact this
  have t3 : TK X 3 (scaleC (scaleC T3 (kf 3)) (kf 2)) 6 3 := by have := s3.scale hX kf2 (by decide) (by decide); exact this
  obtain ⟨f1, f2⟩ := h3.top (by decide)
  obtain ⟨g1, g2⟩ := s3.top (by decide)
  obtain ⟨j1, j2⟩ := t3.top (by decide)
  obtain ⟨p1, p2'⟩ := poly_of (F := [T0, T1, T2, T3]) (by simp) (by simp [f1, h0.fin, h1.fin, h2.fin]) (by simpa using f2)
  obtain ⟨q1, q2⟩ := poly_of (F := [scaleC T1 (kf 1), scaleC T2 (kf 2), scaleC T3 (kf 3)]) (by simp) (by simp [g1, s1.fin, s2.fin]) (by simpa using g2)
  obtain ⟨r1, r2⟩ := poly_of (F := [scaleC (scaleC T2 (kf 2)) (kf 1), scaleC (scaleC T3 (kf 3)) (kf 2)]) (by simp) (by simp [j1, t2.fin]) (by simpa using j2)
  obtain ⟨a1, a2⟩ := chV3 hz hr h3.f (h3.le hX (by decide +kernel)) h2.f (h2.le hX (by decide +kernel)) h1.f (h1.le hX (by decide +kernel)) h0.f (h0.le hX (by decide +kernel))
  have lev := lev3 X i
  refine ⟨[scaleC T1 (kf 1), scaleC T2 (kf 2), scaleC T3 (kf 3)], [scaleC (scaleC T2 (kf 2)) (kf 1), scaleC (scaleC T3 (kf 3)) (kf 2)], ⟨?_, p1, ?_, q1, ?_, r1, ⟨by simp, by simp⟩, ⟨by simp, by simp⟩, a1, ?_, ?_, ?_, ?_, ?_⟩⟩
  · unfold rootedF; rw [p1]; rfl
  · unfold slopePolyF; rw [if_pos p1]; exact q2
  · unfold slopePolyF; rw [if_pos q1]; exact r2
  · exact (chS2 hz hr s3.f (s3.le hX (by decide +kernel)) s2.f (s2.le hX (by decide +kernel)) s1.f (s1.le hX (by decide +kernel))).1
  · exact (chT1 hz hr t3.f (t3.le hX (by decide +kernel)) t2.f (t2.le hX (by decide +kernel))).1
  · have := a2.nr (E := (26473 / 500000000 : Rat)) (by decide +kernel)
    rw [h0.v (by decide), h1.v (by decide), h2.v (by decide), h3.v (by decide), ez] at this
    simp only [sc_one] at this
    rw [← lev.1]; exact this
  · have := (chS2 hz hr s3.f (s3.le hX (by decide +kernel)) s2.f (s2.le hX (by decide +kernel)) s1.f (s1.le hX (by decide +kernel))).2.nr (E := (6703 / 250000000 : Rat)) (by decide +kernel)
    rw [s1.v (by decide), s2.v (by decide), s3.v (by decide), ez] at this
    simp only [sc_one] at this
    rw [← lev.2.1]; exact this
  · have := (chT1 hz hr t3.f (t3.le hX (by decide +kernel)) t2.f (t2.le hX (by decide +kernel))).2.nr (E := (3767 / 500000000 : Rat)) (by decide +kernel)
    rw [t2.v (by decide), t3.v (by decide), ez] at this
    rw [← lev.2.2]; exact this
theorem ev4 {X : Nat → Int × Int} (hX : ∀ j, j < 4 → nz (X j) ≤ nb j) {i : Nat} {z : C2} (hz : fC z) (ez : cv z = zq X i) (hr : N (cv z) ≤ 193 / 64) {T0 T1 T2 T3 T4 : C2} (h0 : TK X 4 T0 1 0) (h1 : TK X 4 T1 1 1) (h2 : TK X 4 T2 1 2) (h3 : TK X 4 T3 1 3) (h4 : TK X 4 T4 1 4) :
    ∃ S S2, EV [T0, T1, T2, T3, T4] S S2 z (VV (dq X i) 4).1 (VV (dq X i) 4).2.1 (VV (dq X i) 4).2.2 (49661 / 200000000 : Rat) (147339 / 1000000000 : Rat) (367 / 6250000 : Rat) := by
  have s1 : TK X 4 (scaleC T1 (kf 1)) 1 1 := by have := h1.scale hX kf1 (by decide) (by decide); exact this
  have s2 : TK X 4 (scaleC T2 (kf 2)) 2 2 := by have := h2.scale hX kf2 (by decide) (by decide); exact this
  have s3 : TK X 4 (scaleC T3 (kf 3)) 3 3 := by have := h3.scale hX kf3 (by decide) (by decide); exact this
  have s4 : TK X 4 (scaleC T4 (kf 4)) 4 4 := by have := h4.scale hX kf4 (by decide) (by decide); exact this
  have t2 : TK X 4 (scaleC (scaleC T2 (kf 2)) (kf 1)) 2 2 := by have := s2.scale hX kf1 (by decide) (by decide); exact this
  have t3 : TK X 4 (scaleC (scaleC T3 (kf 3)) (kf 2)) 6 3 := by have := s3.scale hX kf2 (by decide) (by decide); exact this
  have t4 : TK X 4 (scaleC (scaleC T4 (kf 4)) (kf 3)) 12 4 := by have := s4.scale hX kf3 (by decide) (by decide); exact this
  obtain ⟨f1, f2⟩ := h4.top (by decide)
  obtain ⟨g1, g2⟩ := s4.top (by decide)
  obtain ⟨j1, j2⟩ := t4.top (by decide)
  obtain ⟨p1, p2'⟩ := poly_of (F := [T0, T1, T2, T3, T4]) (by simp) (by simp [f1, h0.fin, h1.fin, h2.fin, h3.fin]) (by simpa using f2)
  obtain ⟨q1, q2⟩ := poly_of (F := [scaleC T1 (kf 1), scaleC T2 (kf 2), scaleC T3 (kf 3), scaleC T4 (kf 4)]) (by simp) (by simp [g1, s1.fin, s2.fin, s3.fin]) (by simpa using g2)
  obtain ⟨r1, r2⟩ := poly_of (F := [scaleC (scaleC T2 (kf 2)) (kf 1), scaleC (scaleC T3 (kf 3)) (kf 2), scaleC (scaleC T4 (kf 4)) (kf 3)]) (by simp) (by simp [j1, t2.fin, t3.fin]) (by simpa using j2)
  obtain ⟨a1, a2⟩ := chV4 hz hr h4.f (h4.le hX (by decide +kernel)) h3.f (h3.le hX (by decide +kernel)) h2.f (h2.le hX (by decide +kernel)) h1.f (h1.le hX (by decide +kernel)) h0.f (h0.le hX (by decide +kernel))
  have lev := lev4 X i
  refine ⟨[scaleC T1 (kf 1), scaleC T2 (kf 2), scaleC T3 (kf 3), scaleC T4 (kf 4)], [scaleC (scaleC T2 (kf 2)) (kf 1), scaleC (scaleC T3 (kf 3)) (kf 2), scaleC (scaleC T4 (kf 4)) (kf 3)], ⟨?_, p1, ?_, q1, ?_, r1, ⟨by simp, by simp⟩, ⟨by simp, by simp⟩, a1, ?_, ?_, ?_, ?_, ?_⟩⟩
  · unfold rootedF; rw [p1]; rfl
  · unfold slopePolyF; rw [if_pos p1]; exact q2
  · unfold slopePolyF; rw [if_pos q1]; exact r2
  · exact (chS3 hz hr s4.f (s4.le hX (by decide +kernel)) s3.f (s3.le hX (by decide +kernel)) s2.f (s2.le hX (by decide +kernel)) s1.f (s1.le hX (by decide +kernel))).1
  · exact (chT2 hz hr t4.f (t4.le hX (by decide +kernel)) t3.f (t3.le hX (by decide +kernel)) t2.f (t2.le hX (by decide +kernel))).1
  · have := a2.nr (E := (49661 / 200000000 : Rat)) (by decide +kernel)
    rw [h0.v (by decide), h1.v (by decide), h2.v (by decide), h3.v (by decide), h4.v (by decide), ez] at this
    simp only [sc_one] at this
    rw [← lev.1]; exact this
  · have := (chS3 hz hr s4.f (s4.le hX (by decide +kernel)) s3.f (s3.le hX (by decide +kernel)) s2.f (s2.le hX (by decide +kernel)) s1.f (s1.le hX (by decide +kernel))).2.nr (E := (147339 / 1000000000 : Rat)) (by decide +kernel)
    rw [s1.v (by decide), s2.v (by decide), s3.v (by decide), s4.v (by decide), ez] at this
    simp only [sc_one] at this
    rw [← lev.2.1]; exact this
  · have := (chT2 hz hr t4.f (t4.le hX (by decide +kernel)) t3.f (t3.le hX (by decide +kernel)) t2.f (t2.le hX (by decide +kernel))).2.nr (E := (367 / 6250000 : Rat)) (by decide +kernel)
    rw [t2.v (by decide), t3.v (by decide), t4.v (by decide), ez] at this
    rw [← lev.2.2]; exact this
end Go.Proofs.YtfnhddaofllniaaGreat

/- The computed values beside a drawn root, divided by the product of the distances: near those of a simple root. Conditions: up to four roots as they are drawn. -/
namespace Go.Proofs.YtfnhddaofllniaaGreat
open Go
set_option linter.unusedSimpArgs false
set_option linter.unusedVariables false

theorem N_sc (k : Rat) (c : Q2) : N (sc k c) = A k * N c := by unfold N; simp only [re_sc, im_sc, A_mul]; grind
theorem N_scp {k : Rat} (hk : 0 ≤ k) (c : Q2) : N (sc k c) = k * N c := by rw [N_sc, A_of_nonneg hk]
theorem N_dl : N dl = 1 / 64 := by decide +kernel
/-- What is known of the three values. -/
structure NN (n : Nat) (v s t : Q2) (K P m g h : Q2) : Prop where
  kp : K * P = one2
  k : N K ≤ 7
  p : N P ≤ 512
  pk : N P * N K ≤ 8
  v : v * K = dl * (one2 + m)
  m : N m ≤ 17 / 200
  s : s * K = one2 + g
  ng : N g ≤ 93 / 1000
  t : t * K = sc 64 h
  nh : N h ≤ 24 / 125
  gh : 2 ≤ n → N (sc (2 * ((n : Rat) - 1)) g - sc (n : Rat) h) ≤ 9 / 100 * ((n : Rat) - 1)
def Tab (n : Nat) (Ev Es Et : Rat) (i : Nat) : Prop := 64 * (Ev * KB i n) ≤ 17 / 200 ∧ WB i n / 64 + Es * KB i n ≤ 93 / 1000 ∧ WB i n / 32 + EB i n / 2048 + Et * KB i n / 64 ≤ 24 / 125 ∧
  (2 ≤ n → WB i n / 32 + 2 * ((n : Rat) - 1) * (Es * KB i n) + (n : Rat) * (EB i n / 2048) + (n : Rat) * (Et * KB i n / 64) ≤ 9 / 100 * ((n : Rat) - 1)) ∧ KB i n ≤ 7 ∧ CB i n ≤ 8
theorem PP_le {ls : List C2} {X : Nat → Int × Int} (h : DX ls X) {i : Nat} (hi : i < ls.length) (h4 : ls.length ≤ 4) : N (PP (dq X i) i ls.length) ≤ 512 := by
  have key : ∀ j, j < ls.length → N (dq X i j) ≤ 7 := by
    intro j hj
    have e : dq X i j = ⟨((8 * ((X i).1 - (X j).1) + 1 : Int) : Rat) * (1 / 64), ((8 * ((X i).2 - (X j).2) : Int) : Rat) * (1 / 64)⟩ := by
      refine q2e (dq_re X i j) ?_
      unfold dq zq rq
      simp [p2m3, p2m6, Rat.intCast_mul, Rat.intCast_sub]; grind
    have b1 := h.b i
    have b2 := h.b j
    have hb : ((8 * ((X i).1 - (X j).1) + 1).natAbs + (8 * ((X i).2 - (X j).2)).natAbs : Nat) ≤ 448 := by unfold nz at b1 b2; omega
    rw [e]
    unfold N
    simp only
    rw [A_intm _ (by decide +kernel), A_intm _ (by decide +kernel)]
    have h2 : (((8 * ((X i).1 - (X j).1) + 1).natAbs + (8 * ((X i).2 - (X j).2)).natAbs : Nat) : Rat) ≤ ((448 : Nat) : Rat) := by exact_mod_cast hb
    rw [Rat.natCast_add] at h2
    have h3 : ((448 : Nat) : Rat) = 448 := rfl
    rw [h3] at h2
    grind
  have step : ∀ m, m ≤ ls.length → N (PP (dq X i) i m) ≤ 7 ^ (m - (if i < m then 1 else 0)) := by
    intro m
    induction m with
    | zero => intro _; rw [PP, N_one2, show 0 - (if i < 0 then 1 else 0) = 0 by omega]; decide +kernel
    | succ m ih =>
      intro hm
      have ih := ih (by omega)
      rw [PP]
      by_cases hmi : m = i
      · rw [if_pos hmi, if_pos (by omega)]
        rw [if_neg (by omega)] at ih
        exact ih
      · rw [if_neg hmi]
        have a := Rat.le_trans (N_mul _ _) (mul_le (key m (by omega)) ih (N_nonneg _) (by decide +kernel))
        have e : (7 : Rat) * 7 ^ (m - (if i < m then 1 else 0)) = 7 ^ (m + 1 - (if i < m + 1 then 1 else 0)) := by
          by_cases him : i < m
          · rw [if_pos him, if_pos (by omega), show m + 1 - 1 = (m - 1) + 1 by omega, Rat.pow_succ]; grind
          · rw [if_neg him, if_neg (by omega), Nat.sub_zero, Nat.sub_zero, Rat.pow_succ]; grind
        rw [e] at a
        exact a
  have := step ls.length (Nat.le_refl _)
  rw [if_pos hi] at this
  refine Rat.le_trans this ?_
  rcases (by omega : ls.length - 1 = 0 ∨ ls.length - 1 = 1 ∨ ls.length - 1 = 2 ∨ ls.length - 1 = 3) with e | e | e | e <;> rw [e] <;> decide +kernel

theorem nn_of {ls : List C2} {X : Nat → Int × Int} (h : DX ls X) (h4 : ls.length ≤ 4) {i : Nat} (hi : i < ls.length) {n : Nat} (hn : ls.length = n) {Ev Es Et : Rat} (ht : Tab n Ev Es Et i) (e0 : 0 ≤ Ev ∧ 0 ≤ Es ∧ 0 ≤ Et)
    {v s t : Q2} (hv : N (v - (VV (dq X i) n).1) ≤ Ev) (hs : N (s - (VV (dq X i) n).2.1) ≤ Es) (htt : N (t - (VV (dq X i) n).2.2) ≤ Et) : ∃ K P m g th, NN n v s t K P m g th := by
  subst hn
  have hu : ∀ j, j < ls.length → j ≠ i → uq X i j * dq X i j = one2 := fun j hj hij => (uq_ok h hi hj hij).1
  have hu2 : ∀ j, j < ls.length → j ≠ i → N (uq X i j) ≤ ub i j := fun j hj hij => (uq_ok h hi hj hij).2.1
  have hu3 : ∀ j, j < ls.length → j ≠ i → N (dq X i j) * N (uq X i j) ≤ 2 := fun j hj hij => (uq_ok h hi hj hij).2.2
  obtain ⟨a1, a2, a3⟩ := norm_after hu ls.length hi (Nat.le_refl _)
  have kp := KP hu ls.length (Nat.le_refl _)
  have kk := KK_le hu2 ls.length (Nat.le_refl _)
  have ww := WW_le hu2 ls.length (Nat.le_refl _)
  have ee := EE_le hu2 ls.length (Nat.le_refl _)
  have cc := CC_le hu3 ls.length (Nat.le_refl _)
  have pp := PP_le h hi h4
  rw [dq_self] at a1 a2 a3
  obtain ⟨t1, t2, t3, t4, t5, t6⟩ := ht
  generalize KK (uq X i) i ls.length = K at *
  generalize WW (uq X i) i ls.length = W at *
  generalize EE (uq X i) i ls.length = E at *
  generalize PP (dq X i) i ls.length = P at *
  generalize (VV (dq X i) ls.length).1 = v0 at *
  generalize (VV (dq X i) ls.length).2.1 = s0 at *
  generalize (VV (dq X i) ls.length).2.2 = t0 at *
  generalize KB i ls.length = kb at *
  generalize WB i ls.length = wb at *
  generalize EB i ls.length = eb' at *
  have nK := N_nonneg K
  have b1 := Rat.le_trans (N_mul (v - v0) K) (mul_le hv kk nK e0.1)
  have b2 := Rat.le_trans (N_mul (s - s0) K) (mul_le hs kk nK e0.2.1)
  have b3 := Rat.le_trans (N_mul (t - t0) K) (mul_le htt kk nK e0.2.2)
  refine ⟨K, P, sc 64 ((v - v0) * K), dl * W + (s - s0) * K, sc (1 / 32) W + (sc (1 / 32) (dl * E) + sc (1 / 64) ((t - t0) * K)), ⟨kp, Rat.le_trans kk t5, pp, Rat.le_trans cc t6, ?_, ?_, ?_, ?_, ?_, ?_, ?_⟩⟩
  · have : v * K = v0 * K + (v - v0) * K := q2e (by simp; grind) (by simp; grind)
    rw [this, a1]
    generalize (v - v0) * K = y
    refine q2e ?_ ?_ <;> (simp; grind)
  · rw [N_sc, show A 64 = 64 by decide +kernel]
    refine Rat.le_trans ?_ t1
    exact Rat.mul_le_mul_of_nonneg_left b1 (by decide)
  · have : s * K = s0 * K + (s - s0) * K := q2e (by simp; grind) (by simp; grind)
    rw [this, a2]
    refine q2e ?_ ?_ <;> (simp; grind)
  · have c1 := N_add (dl * W) ((s - s0) * K)
    have c2 := N_mul dl W
    rw [N_dl] at c2
    grind
  · have : t * K = t0 * K + (t - t0) * K := q2e (by simp; grind) (by simp; grind)
    rw [this, a3]
    generalize (t - t0) * K = y
    refine q2e ?_ ?_ <;> (simp; grind)
  · have c1 := N_add (sc (1 / 32) W) (sc (1 / 32) (dl * E) + sc (1 / 64) ((t - t0) * K))
    have c2 := N_add (sc (1 / 32) (dl * E)) (sc (1 / 64) ((t - t0) * K))
    have c3 := N_mul dl E
    have d1 := N_scp (show (0 : Rat) ≤ 1 / 32 by decide +kernel) W
    have d2 := N_scp (show (0 : Rat) ≤ 1 / 32 by decide +kernel) (dl * E)
    have d3 := N_scp (show (0 : Rat) ≤ 1 / 64 by decide +kernel) ((t - t0) * K)
    rw [N_dl] at c3
    grind
  · intro h2
    have t4 := t4 h2
    have hn1 : (1 : Rat) ≤ (ls.length : Rat) := by exact_mod_cast (by omega : 1 ≤ ls.length)
    generalize (ls.length : Rat) = r at *
    have e : sc (2 * (r - 1)) (dl * W + (s - s0) * K) - sc r (sc (1 / 32) W + (sc (1 / 32) (dl * E) + sc (1 / 64) ((t - t0) * K))) =
        (sc (2 * (r - 1)) ((s - s0) * K) - sc (1 / 32) W) - (sc r (sc (1 / 32) (dl * E)) + sc r (sc (1 / 64) ((t - t0) * K))) := by
      generalize (s - s0) * K = y
      generalize (t - t0) * K = y'
      refine q2e ?_ ?_ <;> (simp; grind)
    rw [e]
    have c1 := N_sub (sc (2 * (r - 1)) ((s - s0) * K) - sc (1 / 32) W) (sc r (sc (1 / 32) (dl * E)) + sc r (sc (1 / 64) ((t - t0) * K)))
    have c2 := N_sub (sc (2 * (r - 1)) ((s - s0) * K)) (sc (1 / 32) W)
    have c3 := N_add (sc r (sc (1 / 32) (dl * E))) (sc r (sc (1 / 64) ((t - t0) * K)))
    have c4 := N_mul dl E
    rw [N_dl] at c4
    rw [N_scp (show 0 ≤ 2 * (r - 1) by grind), N_scp (show (0 : Rat) ≤ 1 / 32 by decide +kernel)] at c2
    rw [N_scp (show 0 ≤ r by grind), N_scp (show 0 ≤ r by grind), N_scp (show (0 : Rat) ≤ 1 / 32 by decide +kernel), N_scp (show (0 : Rat) ≤ 1 / 64 by decide +kernel)] at c3
    have k1 := Rat.mul_le_mul_of_nonneg_left b2 (show 0 ≤ 2 * (r - 1) by grind)
    have k2 := Rat.mul_le_mul_of_nonneg_left (show 1 / 32 * N (dl * E) ≤ eb' / 2048 by grind) (show 0 ≤ r by grind)
    have k3 := Rat.mul_le_mul_of_nonneg_left (show 1 / 64 * N ((t - t0) * K) ≤ Et * kb / 64 by grind) (show 0 ≤ r by grind)
    grind
theorem tab1 : ∀ i, i < 1 → Tab 1 (897 / 1000000000 : Rat) (0 : Rat) (0 : Rat) i := by unfold Tab; decide +kernel
theorem tab2 : ∀ i, i < 2 → Tab 2 (8811 / 1000000000 : Rat) (381 / 125000000 : Rat) (0 : Rat) i := by unfold Tab; decide +kernel
theorem tab3 : ∀ i, i < 3 → Tab 3 (26473 / 500000000 : Rat) (6703 / 250000000 : Rat) (3767 / 500000000 : Rat) i := by unfold Tab; decide +kernel
theorem tab4 : ∀ i, i < 4 → Tab 4 (49661 / 200000000 : Rat) (147339 / 1000000000 : Rat) (367 / 6250000 : Rat) i := by unfold Tab; decide +kernel
end Go.Proofs.YtfnhddaofllniaaGreat

/- Square roots and lengths on values. Conditions: numbers that are not below 0 and not too great. -/
namespace Go.Proofs.YtfnhddaofllniaaGreat
open Go
set_option linter.unusedSimpArgs false
set_option linter.unusedVariables false

theorem rootFrom_lt (n : Nat) : ∀ todo root, n < (root + 2 ^ todo) * (root + 2 ^ todo) → n < (Ieee.Datum.rootFrom n todo root + 1) * (Ieee.Datum.rootFrom n todo root + 1) := by
  intro todo
  induction todo with
  | zero => intro root h; simpa [Ieee.Datum.rootFrom] using h
  | succ k ih =>
    intro root h
    unfold Ieee.Datum.rootFrom
    dsimp only
    rw [Nat.one_shiftLeft]
    split
    · refine ih _ ?_
      rw [Nat.add_assoc, ← Nat.two_mul, ← Nat.pow_succ']; exact h
    · rename_i h2; exact ih _ (by omega)
theorem root_near {m : Nat} {i : Int} : ∃ M P, Ieee.Datum.root 54 (.number false m i) = some (.number false M P) ∧ A (((M : Rat) * p2 P) * ((M : Rat) * p2 P) - (m : Rat) * p2 i) ≤ p2 (-50) * ((m : Rat) * p2 i) := by
  unfold Ieee.Datum.root
  dsimp only
  by_cases hm : m = 0
  · rw [if_pos hm]
    refine ⟨m, i, rfl, ?_⟩
    rw [hm, show ((0 : Nat) : Rat) = 0 from rfl]
    rw [show (0 : Rat) * p2 i * (0 * p2 i) - 0 * p2 i = 0 by grind, A_zero]; grind
  · rw [if_neg hm]
    simp only [Bool.false_eq_true, if_false]
    have hml : 2 ^ m.log2 ≤ m := Nat.log2_self_le hm
    have hmore0 : 2 * 54 - m.log2 ≤ 2 * 54 - m.log2 + ((i - ((2 * 54 - m.log2 : Nat) : Int)) % 2).toNat := Nat.le_add_right _ _
    generalize hmore : 2 * 54 - m.log2 + ((i - ((2 * 54 - m.log2 : Nat) : Int)) % 2).toNat = more at *
    obtain ⟨E, hE⟩ : ∃ E : Int, i - (more : Int) = 2 * E := ⟨(i - (more : Int)) / 2, by omega⟩
    have hE2 : (i - (more : Int)) / 2 - 1 = E - 1 := by omega
    have hbig : 2 ^ 108 ≤ m <<< more := by
      rw [Nat.shiftLeft_eq]
      calc 2 ^ 108 ≤ 2 ^ (m.log2 + more) := Nat.pow_le_pow_right (by decide) (by omega)
        _ = 2 ^ m.log2 * 2 ^ more := Nat.pow_add ..
        _ ≤ m * 2 ^ more := Nat.mul_le_mul_right _ hml
    have hv : (m : Rat) * p2 i = ((m <<< more : Nat) : Rat) * (p2 E * p2 E) := by
      rw [Nat.shiftLeft_eq, Rat.natCast_mul, ← p2_nat, ← p2_add, Rat.mul_assoc, ← p2_add]; congr 2; omega
    rw [hv]
    generalize m <<< more = n at *
    have hl := rootFrom_le n (n.log2 / 2 + 1) 0 (by simp)
    have hn : n < 2 ^ (n.log2 + 1) := Nat.lt_log2_self
    have hg := rootFrom_lt n (n.log2 / 2 + 1) 0 (by
      rw [Nat.zero_add, ← Nat.pow_add]
      exact Nat.lt_of_lt_of_le hn (Nat.pow_le_pow_right (by decide) (by omega)))
    generalize Ieee.Datum.rootFrom n (n.log2 / 2 + 1) 0 = wh at *
    have hw : 2 ^ 53 ≤ wh := by
      rcases Nat.lt_or_ge wh (2 ^ 53) with h | h
      · have : (wh + 1) * (wh + 1) ≤ 2 ^ 53 * 2 ^ 53 := Nat.mul_le_mul h h
        have e : (2 : Nat) ^ 53 * 2 ^ 53 < 2 ^ 108 := by decide
        omega
      · exact h
    rw [hE2]
    refine ⟨_, _, rfl, ?_⟩
    obtain ⟨st, hst, hst1⟩ : ∃ st, (wh * wh != n).toNat = st ∧ st ≤ 1 := ⟨_, rfl, Bool.toNat_le _⟩
    rw [hst]
    have pE : p2 E = p2 (E - 1) + p2 (E - 1) := p2_dbl (by omega)
    have hp := p2_pos (E - 1)
    have c1 : ((wh * wh : Nat) : Rat) ≤ (n : Rat) := by exact_mod_cast hl
    have c2 : (n : Rat) ≤ (((wh + 1) * (wh + 1) : Nat) : Rat) := by exact_mod_cast Nat.le_of_lt hg
    have c3 : ((2 ^ 53 : Nat) : Rat) ≤ (wh : Rat) := by exact_mod_cast hw
    have c4 : (st : Rat) ≤ 1 := by exact_mod_cast hst1
    have c5 : (0 : Rat) ≤ (st : Rat) := by exact_mod_cast Nat.zero_le st
    rw [Rat.natCast_mul] at c1
    rw [Rat.natCast_mul, Rat.natCast_add, show ((1 : Nat) : Rat) = 1 from rfl] at c2
    have c6 : ((2 ^ 53 : Nat) : Rat) = 9007199254740992 := by decide +kernel
    rw [c6] at c3
    have e1' : ((2 * wh + st : Nat) : Rat) = 2 * (wh : Rat) + (st : Rat) := by rw [Rat.natCast_add, Rat.natCast_mul]; rfl
    rw [e1', pE, show p2 (-50) = 1 / 1125899906842624 by decide +kernel]
    generalize p2 (E - 1) = x at *
    generalize (wh : Rat) = y at *
    generalize (n : Rat) = z at *
    generalize (st : Rat) = t at *
    clear hv hbig hl hn hg hw hst hst1 pE e1' c6 hE hE2 hmore hmore0 hml hm
    have e3 : (2 * y + t) * x * ((2 * y + t) * x) - z * ((x + x) * (x + x)) = ((2 * y + t) * (2 * y + t) - 4 * z) * (x * x) := by grind
    have e4 : 1 / 1125899906842624 * (z * ((x + x) * (x + x))) = (1 / 1125899906842624 * (4 * z)) * (x * x) := by grind
    have hxx : 0 ≤ x * x := Rat.le_of_lt (Rat.mul_pos hp hp)
    rw [e3, e4, A_mul, A_of_nonneg hxx]
    refine Rat.mul_le_mul_of_nonneg_right ?_ hxx
    have yt : t * t ≤ 1 * 1 := mul_le c4 c4 c5 (by decide)
    have yt2 : y * t ≤ y * 1 := Rat.mul_le_mul_of_nonneg_left c4 (by grind)
    have yt3 : 0 ≤ y * t := Rat.mul_nonneg (by grind) c5
    have yt4 : 0 ≤ t * t := Rat.mul_nonneg c5 c5
    have yy : 9007199254740992 * y ≤ y * y := Rat.mul_le_mul_of_nonneg_right c3 (by grind)
    rw [A_le]
    constructor <;> grind

theorem sq_val {y : Nat} (h : fN .f64 y = true) (h0 : 0 ≤ vN .f64 y) (hb : vN .f64 y ≤ p2 90) : fN .f64 (sqF y) = true ∧ fit1 (sqF y) ∧
    ∃ x, 0 ≤ x ∧ x ≤ p2 46 ∧ A (x * x - vN .f64 y) ≤ p2 (-50) * vN .f64 y ∧ A (vN .f64 (sqF y) - x) ≤ p2 (-53) * x + p2 (-1075) := by
  obtain ⟨s, m, i, hd⟩ := isNum_ex h
  have hv : vN .f64 y = sg s ((m : Rat) * p2 i) := by unfold vN; rw [hd]; rfl
  have hm0 : (0 : Rat) ≤ (m : Rat) * p2 i := Rat.mul_nonneg (by exact_mod_cast Nat.zero_le m) (Rat.le_of_lt (p2_pos i))
  have hv2 : vN .f64 y = (m : Rat) * p2 i := by
    cases s
    · exact hv
    · rw [hv] at h0 ⊢
      simp only [sg, if_true] at h0 ⊢
      have : (m : Rat) * p2 i = 0 := Rat.le_antisymm (by grind) hm0
      grind
  have hroot : ∃ s' M P, Ieee.Datum.root 54 (.number s m i) = some (.number s' M P) ∧ sg s' ((M : Rat) * p2 P) = (M : Rat) * p2 P ∧ A (((M : Rat) * p2 P) * ((M : Rat) * p2 P) - (m : Rat) * p2 i) ≤ p2 (-50) * ((m : Rat) * p2 i) := by
    cases s
    · obtain ⟨M, P, a, b⟩ := root_near (m := m) (i := i)
      exact ⟨false, M, P, a, rfl, b⟩
    · have hz : m = 0 := by
        rcases Nat.eq_zero_or_pos m with hh | hh
        · exact hh
        · exfalso
          rw [hv] at h0
          simp only [sg, if_true] at h0
          have : (0 : Rat) < (m : Rat) * p2 i := Rat.mul_pos (by exact_mod_cast hh) (p2_pos i)
          grind
      subst hz
      refine ⟨true, 0, i, rfl, ?_, ?_⟩
      · simp only [sg, if_true, show ((0 : Nat) : Rat) = 0 from rfl]; grind
      · rw [show ((0 : Nat) : Rat) = 0 from rfl, show (0 : Rat) * p2 i * (0 * p2 i) - 0 * p2 i = 0 by grind, A_zero]; grind
  obtain ⟨s', M, P, hr, hsg, hx⟩ := hroot
  rw [← hv2] at hx
  have hx0 : (0 : Rat) ≤ (M : Rat) * p2 P := Rat.mul_nonneg (by exact_mod_cast Nat.zero_le M) (Rat.le_of_lt (p2_pos P))
  have hx1 : (M : Rat) * p2 P ≤ p2 46 := by
    refine sq_le_sq (Rat.le_of_lt (p2_pos 46)) ?_
    have a1 := le_A (((M : Rat) * p2 P) * ((M : Rat) * p2 P) - vN .f64 y)
    have a2 : p2 (-50) * vN .f64 y ≤ 1 * vN .f64 y := Rat.mul_le_mul_of_nonneg_right (p2_small (by decide)) h0
    have a3 : p2 46 * p2 46 = p2 92 := by rw [← p2_add]; rfl
    have a4 : p2 90 + p2 90 ≤ p2 92 := by decide +kernel
    rw [a3]
    generalize p2 92 = c at *
    generalize p2 90 = d at *
    generalize p2 (-50) = e at *
    grind
  have hq : sqF y = nrm .f64 (FloatKind.f64.encode (.number s' M P)) := by
    unfold sqF Ieee.Format.sqrt
    rw [show FloatKind.f64.format.read y = .number s m i from hd, show Ieee.Datum.root (FloatKind.f64.format.fractionBits + 2) (.number s m i) = some (.number s' M P) from hr]
    rfl
  have hR : Res .f64 (nrm .f64 (FloatKind.f64.encode (.number s' M P))) (valD (.number s' M P)) := res_write rfl (by
    rw [A_val]; exact lt_of_p2 hx1 (by decide))
  have hval : valD (.number s' M P) = (M : Rat) * p2 P := hsg
  rw [hval] at hR
  rw [hq]
  have hRe : A (vN .f64 (nrm .f64 (FloatKind.f64.encode (.number s' M P))) - (M : Rat) * p2 P) ≤ p2 (-53) * ((M : Rat) * p2 P) + p2 (-1075) := by
    have := hR.2.1; rw [A_of_nonneg hx0] at this; exact this
  refine ⟨hR.1, (nw_ok hR.1 ?_).1, (M : Rat) * p2 P, hx0, hx1, hx, hRe⟩
  have b1 := A_add (vN .f64 (nrm .f64 (FloatKind.f64.encode (.number s' M P))) - (M : Rat) * p2 P) ((M : Rat) * p2 P)
  rw [show vN .f64 (nrm .f64 (FloatKind.f64.encode (.number s' M P))) - (M : Rat) * p2 P + (M : Rat) * p2 P = vN .f64 (nrm .f64 (FloatKind.f64.encode (.number s' M P))) by grind, A_of_nonneg hx0] at b1
  have b2 : p2 (-53) * ((M : Rat) * p2 P) ≤ 1 * ((M : Rat) * p2 P) := Rat.mul_le_mul_of_nonneg_right (p2_small (by decide)) hx0
  have b3 : p2 (-1075) ≤ 1 := p2_small (by decide)
  have b4 : p2 46 + p2 46 + 1 < p2 127 := by decide +kernel
  generalize p2 127 = c at *
  generalize p2 46 = d at *
  generalize p2 (-53) = e at *
  generalize p2 (-1075) = f at *
  clear hR hq hr hsg hval
  grind

/-- The root of what is at most a square. -/
theorem sq_le {y : Nat} {c : Rat} (h : fN .f64 y = true) (h0 : 0 ≤ vN .f64 y) (hb : vN .f64 y ≤ p2 90) (hc : p2 (-60) ≤ c) (hy : vN .f64 y ≤ c * c) : vN .f64 (sqF y) ≤ c * (1 + p2 (-40)) := by
  obtain ⟨_, _, x, x0, x1, e1', e2'⟩ := sq_val h h0 hb
  have c0 : 0 < c := by have := p2_pos (-60); grind
  have k1 : x ≤ c * (1 + p2 (-45)) := by
    refine sq_le_sq (Rat.mul_nonneg (Rat.le_of_lt c0) (by have := p2_pos (-45); grind)) ?_
    have a1 := le_A (x * x - vN .f64 y)
    have a2 := Rat.mul_le_mul_of_nonneg_left hy (Rat.le_of_lt (p2_pos (-50)))
    have a3 : p2 (-50) ≤ p2 (-45) := p2_mono (by decide)
    have a4 : 0 ≤ c * c := Rat.le_of_lt (Rat.mul_pos c0 c0)
    have a5 := Rat.mul_le_mul_of_nonneg_right a3 a4
    have a6 : 0 ≤ p2 (-45) * p2 (-45) * (c * c) := Rat.mul_nonneg (Rat.le_of_lt (Rat.mul_pos (p2_pos _) (p2_pos _))) a4
    have a7 := Rat.mul_nonneg (Rat.le_of_lt (p2_pos (-45))) a4
    generalize p2 (-45) = u at *
    generalize p2 (-50) = v at *
    grind
  have a1 := le_A (vN .f64 (sqF y) - x)
  have a2 := Rat.mul_le_mul_of_nonneg_left k1 (Rat.le_of_lt (p2_pos (-53)))
  have a3 : p2 (-1075) ≤ p2 (-45) * p2 (-60) := by rw [← p2_add]; exact p2_mono (by decide)
  have a4 := Rat.mul_le_mul_of_nonneg_left hc (Rat.le_of_lt (p2_pos (-45)))
  have a5 : p2 (-53) * (1 + p2 (-45)) + p2 (-45) + p2 (-45) ≤ p2 (-40) := by decide +kernel
  have a6 := Rat.mul_le_mul_of_nonneg_right a5 (Rat.le_of_lt c0)
  generalize p2 (-45) = u at *
  generalize p2 (-53) = v at *
  generalize p2 (-40) = w at *
  generalize p2 (-1075) = t at *
  generalize p2 (-60) = l at *
  clear hy hb h e1' h0 a5
  grind
/-- The root of what is at least a square. -/
theorem sq_ge {y : Nat} {c : Rat} (h : fN .f64 y = true) (h0 : 0 ≤ vN .f64 y) (hb : vN .f64 y ≤ p2 90) (hc : p2 (-60) ≤ c) (hy : c * c ≤ vN .f64 y) : c * (1 - p2 (-40)) ≤ vN .f64 (sqF y) := by
  obtain ⟨_, _, x, x0, x1, e1', e2'⟩ := sq_val h h0 hb
  have c0 : 0 < c := by have := p2_pos (-60); grind
  have k1 : c * (1 - p2 (-45)) ≤ x := by
    refine sq_le_sq x0 ?_
    have a1 := le_A (x * x - vN .f64 y)
    have a3 : p2 (-50) ≤ p2 (-45) := p2_mono (by decide)
    have b1 : p2 (-45) * p2 (-45) ≤ p2 (-46) := by decide +kernel
    have b2 : p2 (-46) + p2 (-46) = p2 (-45) := p2_two (-46)
    have a4 : 0 ≤ c * c := Rat.le_of_lt (Rat.mul_pos c0 c0)
    have b3 : p2 (-50) ≤ p2 (-46) := p2_mono (by decide)
    have b4 : p2 (-50) ≤ 1 := p2_small (by decide)
    have a5 := Rat.mul_le_mul_of_nonneg_right hy (show 0 ≤ 1 - p2 (-50) by grind)
    have a6 := Rat.mul_le_mul_of_nonneg_right b1 a4
    have a7 := Rat.mul_le_mul_of_nonneg_right b3 a4
    have a8 := Rat.mul_nonneg (Rat.le_of_lt (p2_pos (-46))) a4
    have a9 : p2 (-45) * (c * c) = p2 (-46) * (c * c) + p2 (-46) * (c * c) := by rw [← b2]; grind
    have a10 : c * (1 - p2 (-45)) * (c * (1 - p2 (-45))) = c * c - (p2 (-45) * (c * c) + p2 (-45) * (c * c)) + p2 (-45) * p2 (-45) * (c * c) := by grind
    have a11 : c * c * (1 - p2 (-50)) = c * c - p2 (-50) * (c * c) := by grind
    have a12 : vN .f64 y * (1 - p2 (-50)) ≤ x * x := by grind
    rw [a10]
    rw [a11] at a5
    generalize p2 (-45) * p2 (-45) * (c * c) = t1 at *
    generalize p2 (-45) * (c * c) = t2 at *
    generalize p2 (-46) * (c * c) = t3 at *
    generalize p2 (-50) * (c * c) = t4 at *
    generalize vN .f64 y * (1 - p2 (-50)) = t5 at *
    clear hc hb h e1' e2' x1 a1 a10 a11 hy b1 b2 b3 b4 a3
    grind
  have a1 := le_A (vN .f64 (sqF y) - x)
  have k2 : x - (p2 (-53) * x + p2 (-1075)) ≤ vN .f64 (sqF y) := by grind
  have a2 : p2 (-53) ≤ 1 := p2_small (by decide)
  have a2' := Rat.mul_le_mul_of_nonneg_right k1 (show 0 ≤ 1 - p2 (-53) by grind)
  have a3 : p2 (-1075) ≤ p2 (-45) * p2 (-60) := by rw [← p2_add]; exact p2_mono (by decide)
  have a4 := Rat.mul_le_mul_of_nonneg_left hc (Rat.le_of_lt (p2_pos (-45)))
  have a5 : 1 - p2 (-40) ≤ (1 - p2 (-45)) * (1 - p2 (-53)) - p2 (-45) := by decide +kernel
  have a6 := Rat.mul_le_mul_of_nonneg_left a5 (Rat.le_of_lt c0)
  generalize p2 (-45) = u at *
  generalize p2 (-53) = v at *
  generalize p2 (-40) = w at *
  generalize p2 (-1075) = t at *
  generalize p2 (-60) = l at *
  clear hy hb h e1' e2' h0 a5 a1
  grind
/-- A root narrowed. -/
theorem nw_near {y : Nat} {a b : Rat} (h : fN .f64 y = true) (ha : p2 (-60) ≤ a) (hb : b ≤ p2 60) (h1 : a ≤ vN .f64 y) (h2 : vN .f64 y ≤ b) : fit1 y ∧ fN .f32 (nw y) = true ∧ a * (1 - p2 (-23)) ≤ vN .f32 (nw y) ∧ vN .f32 (nw y) ≤ b * (1 + p2 (-23)) := by
  have v0 : 0 < vN .f64 y := by have := p2_pos (-60); grind
  obtain ⟨f1, R⟩ := nw_ok h (by rw [A_of_nonneg (Rat.le_of_lt v0)]; exact lt_of_p2 (Rat.le_trans h2 hb) (by decide))
  have e : A (vN .f32 (nw y) - vN .f64 y) ≤ p2 (-24) * vN .f64 y + p2 (-150) := by
    have := R.2.1; rw [A_of_nonneg (Rat.le_of_lt v0)] at this; exact this
  have a1 := le_A (vN .f32 (nw y) - vN .f64 y)
  have a2 : p2 (-150) ≤ p2 (-24) * p2 (-60) := by rw [← p2_add]; exact p2_mono (by decide)
  have a3 := Rat.mul_le_mul_of_nonneg_left ha (Rat.le_of_lt (p2_pos (-24)))
  have a4 : p2 (-24) + p2 (-24) = p2 (-23) := p2_two (-24)
  have a5 := Rat.mul_le_mul_of_nonneg_left h2 (Rat.le_of_lt (p2_pos (-24)))
  have a6 : p2 (-24) ≤ 1 := p2_small (by decide)
  have a7 := Rat.mul_le_mul_of_nonneg_left h1 (show 0 ≤ 1 - p2 (-24) by grind)
  have a8 := Rat.mul_le_mul_of_nonneg_left (Rat.le_trans h1 h2) (Rat.le_of_lt (p2_pos (-24)))
  rw [← a4]
  refine ⟨f1, R.1, ?_, ?_⟩ <;> (generalize p2 (-24) = u at *; generalize p2 (-150) = v at *; generalize p2 (-60) = w at *; clear R a4 h; grind)
end Go.Proofs.YtfnhddaofllniaaGreat
