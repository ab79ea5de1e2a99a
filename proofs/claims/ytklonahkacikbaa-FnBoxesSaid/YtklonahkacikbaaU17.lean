/- Tangents and their angles, plainly: a short series of the angle, its law of sums, tangents of products. Conditions: the tangents are small. -/
import Derived.Test.YtklonahkacikbaaU8
import Derived.Test.YtklonahkacikbaaU15
import Derived.Test.YtklonahkacikbaaU16
namespace Go.Proofs.Ytklonahkacikbaa
open Go
set_option linter.unusedSimpArgs false
set_option linter.unusedVariables false

/-- The angle's first three terms. -/
def T5 (t : Rat) : Rat := t - t * t * t / 3 + t * t * t * t * t / 5
/-- The bound of the law of sums. -/
def ErrT (C Q : Rat) : Rat := C * (Q * Q * Q) + C * C * C * (2 * (Q * Q) + 3 * (Q * Q * Q) + Q * Q * Q * Q) + C * C * C * C * C * (Q + 2 * (Q * Q) + 2 * (Q * Q * Q) + Q * Q * Q * Q + Q * Q * Q * Q * Q)
theorem t5_add {a b c P : Rat} (h : c * (1 - P) = a + b) (hP : a * b = P) :
    T5 a + T5 b - T5 c = -(c * (P * P * P)) + c * c * c * (2 * (P * P) - 8 / 3 * (P * P * P) + P * P * P * P) + c * c * c * c * c * (-P + 2 * (P * P) - 2 * (P * P * P) + P * P * P * P - P * P * P * P * P / 5) := by
  have s3 : a * a * a + b * b * b = (a + b) * (a + b) * (a + b) - 3 * (a * b) * (a + b) := by grind
  have s5 : a * a * a * a * a + b * b * b * b * b = (a + b) * (a + b) * (a + b) * (a + b) * (a + b) - 5 * (a * b) * ((a + b) * (a + b) * (a + b)) + 5 * (a * b) * (a * b) * (a + b) := by grind
  have e : T5 a + T5 b = (a + b) - (a * a * a + b * b * b) / 3 + (a * a * a * a * a + b * b * b * b * b) / 5 := by unfold T5; grind
  rw [e, s3, s5, hP, ← h]
  unfold T5
  grind
theorem abs_m {x y : Rat} {X Y : Rat} (hx : A x ≤ X) (hy : A y ≤ Y) : A (x * y) ≤ X * Y := by
  rw [A_mul]; exact mul_le hx hy (A_nonneg y) (Rat.le_trans (A_nonneg x) hx)
theorem abs_a {x y : Rat} {X Y : Rat} (hx : A x ≤ X) (hy : A y ≤ Y) : A (x + y) ≤ X + Y := by
  have := A_add x y; grind
theorem abs_s {x y : Rat} {X Y : Rat} (hx : A x ≤ X) (hy : A y ≤ Y) : A (x - y) ≤ X + Y := by
  rw [show x - y = x + -y by grind]
  exact abs_a hx (by rw [A_neg]; exact hy)
theorem abs_k {x X k : Rat} (hk : 0 ≤ k) (hx : A x ≤ X) : A (k * x) ≤ k * X := by
  rw [A_mul, A_of_nonneg hk]; exact Rat.mul_le_mul_of_nonneg_left hx hk
theorem t5_sum {a b c P C Q : Rat} (h : c * (1 - P) = a + b) (hP : a * b = P) (hC : A c ≤ C) (hQ : A P ≤ Q) : A (T5 a + T5 b - T5 c) ≤ ErrT C Q := by
  rw [t5_add h hP]
  have P2 := abs_m hQ hQ
  have P3 := abs_m P2 hQ
  have P4 := abs_m P3 hQ
  have P5 := abs_m P4 hQ
  have c3 := abs_m (abs_m hC hC) hC
  have c5 := abs_m (abs_m c3 hC) hC
  have q0 : 0 ≤ Q := Rat.le_trans (A_nonneg P) hQ
  have q3 : 0 ≤ Q * Q * Q := Rat.mul_nonneg (Rat.mul_nonneg q0 q0) q0
  have q5 : 0 ≤ Q * Q * Q * Q * Q := Rat.mul_nonneg (Rat.mul_nonneg q3 q0) q0
  have m1 : A (-(c * (P * P * P))) ≤ C * (Q * Q * Q) := by rw [A_neg]; exact abs_m hC P3
  have m2 : A (2 * (P * P) - 8 / 3 * (P * P * P) + P * P * P * P) ≤ 2 * (Q * Q) + 3 * (Q * Q * Q) + Q * Q * Q * Q := by
    have := abs_a (abs_s (abs_k (k := 2) (by decide +kernel) P2) (abs_k (k := 8 / 3) (by decide +kernel) P3)) P4
    grind
  have m3 : A (-P + 2 * (P * P) - 2 * (P * P * P) + P * P * P * P - P * P * P * P * P / 5) ≤ Q + 2 * (Q * Q) + 2 * (Q * Q * Q) + Q * Q * Q * Q + Q * Q * Q * Q * Q := by
    have n1 : A (-P) ≤ Q := by rw [A_neg]; exact hQ
    have := abs_s (abs_a (abs_s (abs_a n1 (abs_k (k := 2) (by decide +kernel) P2)) (abs_k (k := 2) (by decide +kernel) P3)) P4) (abs_k (k := 1 / 5) (by decide +kernel) P5)
    rw [show P * P * P * P * P / 5 = 1 / 5 * (P * P * P * P * P) by grind]
    grind
  have := abs_a (abs_a m1 (abs_m c3 m2)) (abs_m c5 m3)
  exact this
/-- Near tangents have near angles. -/
theorem t5_lip {s t e : Rat} (hs : A s ≤ 1 / 2) (ht : A t ≤ 1 / 2) (h : A (s - t) ≤ e) : A (T5 s - T5 t) ≤ 2 * e := by
  have id : T5 s - T5 t = (s - t) * (1 - (s * s + s * t + t * t) / 3 + (s * s * (s * s) + s * s * (s * t) + s * t * (s * t) + s * t * (t * t) + t * t * (t * t)) / 5) := by unfold T5; grind
  rw [id]
  have ss := abs_m hs hs
  have st := abs_m hs ht
  have tt := abs_m ht ht
  have b1 : A (1 - (s * s + s * t + t * t) / 3 + (s * s * (s * s) + s * s * (s * t) + s * t * (s * t) + s * t * (t * t) + t * t * (t * t)) / 5) ≤ 2 := by
    have m1 := abs_k (k := 1 / 3) (by decide +kernel) (abs_a (abs_a ss st) tt)
    have m2 := abs_k (k := 1 / 5) (by decide +kernel) (abs_a (abs_a (abs_a (abs_a (abs_m ss ss) (abs_m ss st)) (abs_m st st)) (abs_m st tt)) (abs_m tt tt))
    have := abs_a (abs_s (show A 1 ≤ 1 by decide +kernel) m1) m2
    rw [show (s * s + s * t + t * t) / 3 = 1 / 3 * (s * s + s * t + t * t) by grind, show (s * s * (s * s) + s * s * (s * t) + s * t * (s * t) + s * t * (t * t) + t * t * (t * t)) / 5 = 1 / 5 * (s * s * (s * s) + s * s * (s * t) + s * t * (s * t) + s * t * (t * t) + t * t * (t * t)) by grind]
    refine Rat.le_trans this ?_
    decide +kernel
  have := abs_m h b1
  grind
theorem t5_small {s e : Rat} (hs : A s ≤ 1 / 2) (h : A s ≤ e) : A (T5 s) ≤ 2 * e := by
  have := t5_lip hs (t := 0) (by decide +kernel) (e := e) (by rw [show s - 0 = s by grind]; exact h)
  rw [show T5 0 = 0 by decide +kernel, show T5 s - 0 = T5 s by grind] at this
  exact this
/-- A number's tangent. -/
def Tan (w : Q2) (t : Rat) : Prop := 0 < w.re ∧ t * w.re = w.im
/-- The tangent of a product. -/
theorem Tan.mul {x y : Q2} {s t c : Rat} (hx : Tan x s) (hy : Tan y t) (hP : s * t < 1) (hc : c * (1 - s * t) = s + t) : Tan (x * y) c := by
  obtain ⟨a1, a2⟩ := hx
  obtain ⟨b1, b2⟩ := hy
  have e1 : (x * y).re = x.re * y.re * (1 - s * t) := by rw [re_mul, ← a2, ← b2]; grind
  have e2 : (x * y).im = x.re * y.re * (s + t) := by rw [im_mul, ← a2, ← b2]; grind
  refine ⟨?_, ?_⟩
  · rw [e1]; exact Rat.mul_pos (Rat.mul_pos a1 b1) (by grind)
  · rw [e1, e2, ← hc]; grind
theorem tan_ex {s t : Rat} (hP : s * t < 1) : ∃ c, c * (1 - s * t) = s + t := ⟨(s + t) * (1 - s * t)⁻¹, by
  rw [Rat.mul_assoc, Rat.inv_mul_cancel _ (by grind), Rat.mul_one]⟩
/-- The tangent of a sum is bounded. -/
theorem tan_le {s t c S T C : Rat} (hc : c * (1 - s * t) = s + t) (hs : A s ≤ S) (ht : A t ≤ T) (hST : S * T < 1) (h : S + T ≤ C * (1 - S * T)) : A c ≤ C := by
  have p := abs_m hs ht
  have q : A (1 - s * t) ≥ 1 - S * T := by
    have h1 := le_A (1 - s * t)
    have h2 := le_A (s * t)
    grind
  have q0 : 0 < 1 - S * T := by grind
  have e : A c * A (1 - s * t) ≤ S + T := by rw [← A_mul, hc]; exact abs_a hs ht
  have e2 : A c * (1 - S * T) ≤ C * (1 - S * T) := by
    have := Rat.mul_le_mul_of_nonneg_left q (A_nonneg c)
    grind
  exact lcancel_le q0 e2
end Go.Proofs.Ytklonahkacikbaa

/- How many roots are in a box: of the program and of the reference, as one pure function. Conditions: nothing is too great and no value is 0 around the box. -/
namespace Go.Proofs.Ytklonahkacikbaa
open Go Go.RowKit
set_option linter.unusedSimpArgs false
set_option linter.unusedVariables false

theorem run_floor0 (x : Nat) (w : World) : (callFunc 48 #[.float .f64 x]).run Try.prog w = (do let v ← Go.Extern.MathFloor.toIntegral "math.archFloor" .down #[.float .f64 x]; pure (Next.value v) : Sem Next).run Try.prog w := by kernel_rfl
theorem floor_of {x : Nat} (h : isN .f64 x = false) : Go.Extern.MathFloor.toIntegral "math.archFloor" .down #[.float .f64 x] = pure (.float .f64 (floorI x)) := by
  unfold floorI
  conv => lhs; whnf
  cases hd : FloatKind.f64.decode x with
  | nan s f => unfold isN at h; rw [hd] at h; simp [Ieee.Datum.isNaN] at h
  | infinity s => rfl
  | number s m e => rfl
theorem run_floor {x : Nat} (h : isN .f64 x = false) (w : World) : (callFunc 48 #[.float .f64 x]).run Try.prog w = .ok (.value (.float .f64 (floorI x))) w := by
  rw [run_floor0, floor_of h]
  rfl
theorem floor_lib (y : Nat) (w : World) (h : isN .f64 y = false) : Calls Try.prog 22 #[.float .f64 y] w fun e w' => e = .returned (.float .f64 (floorI y)) ∧ w = w' := by
  have ht := fun w => run_floor h w
  clear h
  go_enter Try.func22, Try.ntmps22
  go_wp2
  go_ret
  exact ⟨rfl, rfl⟩
/-- The count, of the turns. -/
def halfW (s : Nat) : Nat := wd (fop .add .f32 s (nrm .f32 1056964608))
def cntI (s : Nat) : Int := (floatToIntVal .f64 (floorI (halfW s)) .i64).getD 0
def cntR (d : Int) (s : Nat) : Int × Bool := if 0 ≤ cntI s ∧ cntI s ≤ d then (cntI s, true) else (0, false)
theorem c_halfw : fN .f32 (nrm .f32 1056964608) = true ∧ vN .f32 (nrm .f32 1056964608) = 1 / 2 := by decide +kernel
/-- The turns, a half added, floored. -/
theorem cnt_ok {s : Nat} (h : fN .f32 s = true) (hA : A (vN .f32 s) ≤ 130) : fN .f32 (fop .add .f32 s (nrm .f32 1056964608)) = true ∧ A (vN .f32 (fop .add .f32 s (nrm .f32 1056964608)) - (vN .f32 s + 1 / 2)) ≤ 1 / 100000 ∧ fN .f64 (halfW s) = true ∧ isN .f64 (halfW s) = false ∧
    fN .f64 (floorI (halfW s)) = true ∧ vN .f64 (floorI (halfW s)) = (cntI s : Rat) ∧ (cntI s : Rat) ≤ vN .f32 (fop .add .f32 s (nrm .f32 1056964608)) ∧ vN .f32 (fop .add .f32 s (nrm .f32 1056964608)) < (cntI s : Rat) + 1 ∧ floatToIntVal .f64 (floorI (halfW s)) .i64 = some (cntI s) ∧ (cntI s).natAbs ≤ 1001 := by
  obtain ⟨c1, c2⟩ := c_halfw
  unfold cntI halfW
  generalize nrm .f32 1056964608 = hw at *
  have q0 : A (vN .f32 s + vN .f32 hw) ≤ 131 := by
    rw [c2]
    have := A_add (vN .f32 s) (1 / 2)
    rw [show A (1 / 2) = 1 / 2 by decide +kernel] at this
    grind
  have R := near1_res (fop_add_res h c1 (lt_of_p2 (a := 8) (Rat.le_trans q0 (by decide +kernel)) (by decide)))
  obtain ⟨f1, n1⟩ := R
  have q1 : u1 * A (vN .f32 s + vN .f32 hw) ≤ u1 * 131 := Rat.mul_le_mul_of_nonneg_left q0 (Rat.le_of_lt u1_pos)
  have q3 : u1 * 131 + p2 (-149) ≤ 1 / 100000 := by decide +kernel
  have n2 : A (vN .f32 (fop .add .f32 s hw) - (vN .f32 s + 1 / 2)) ≤ 1 / 100000 := by
    rw [c2] at n1
    rw [c2] at q1
    generalize p2 (-149) = b at *
    generalize u1 = a at *
    generalize A (vN .f32 s + 1 / 2) = x3 at *
    grind
  have b1 : A (vN .f32 (fop .add .f32 s hw)) ≤ 132 := by
    rw [c2] at q0
    have := abs_a n2 q0
    rw [show vN .f32 (fop .add .f32 s hw) - (vN .f32 s + 1 / 2) + (vN .f32 s + 1 / 2) = vN .f32 (fop .add .f32 s hw) by grind] at this
    exact Rat.le_trans this (by decide +kernel)
  obtain ⟨w1, w2⟩ := wd_ok f1 (lt_of_p2 (a := 8) (Rat.le_trans b1 (by decide +kernel)) (by decide))
  obtain ⟨Z, z1, z2, z3, z4, z5, z6⟩ := floor_ok (x := wd (fop .add .f32 s hw)) w1 (by rw [w2]; exact Rat.le_trans b1 (by decide +kernel))
  have e : (floatToIntVal .f64 (floorI (wd (fop .add .f32 s hw))) .i64).getD 0 = Z := by rw [z6]; rfl
  rw [e]
  rw [w2] at z3 z4
  exact ⟨f1, n2, w1, fN_not_nan w1, z1, z2, z3, z4, z6, z5⟩
theorem deg_f : ∀ n : Nat, n < 17 → fN .f64 (nrm .f64 (floatOfInt .f64 (n : Int))) = true ∧ vN .f64 (nrm .f64 (floatOfInt .f64 (n : Int))) = (n : Rat) := by decide +kernel
def RetZB (F : Int × Bool) (w : World) (e : Ending) (w' : World) : Prop := e = .returned (.tuple #[.int .i64 F.1, .bool F.2]) ∧ Below w.heap.size w w'
theorem degree_impl (v : Value) (rs : List C2) (n : Nat) (w : World) (hv : RdV w v (cx rs)) (hn : rs.length = n + 1) (h2 : n ≤ 16) : Calls Try.prog 23 #[.agg #[v]] w fun e w' => e = .returned (.int .i64 (n : Int)) ∧ Below w.heap.size w w' := by
  obtain ⟨ao, cap, rfl, _⟩ := hv.shape
  rw [cx_length, hn] at hv ⊢
  clear hv
  have e : IntKind.i64.wrap (((n + 1 : Nat) : Int) - 1) = (n : Int) := by rw [show ((n + 1 : Nat) : Int) - 1 = (n : Int) by omega]; exact IntWalk.i64_in _ ⟨by omega, by omega⟩
  go_enter Try.func23, Try.ntmps23
  go_wp2_with fail
  go_ret
  exact ⟨by first | rfl | (rw [e]) | (simp [e]), (Below.refl _ _).alloc (Nat.le_refl _) _⟩

set_option maxRecDepth 100000 in
set_option maxHeartbeats 4000000 in
theorem roots_impl (v : Value) (rs : List C2) (n : Nat) (lo hi : C2) (st : Nat) (w : World) (hv : RdV w v (cx rs)) (hn : rs.length = n + 1) (h2 : n ≤ 16) (H : BoxOk (rs.map nc) (nc lo) (nc hi) st) :
    Calls Try.prog 8 #[.agg #[v], .complex .f32 lo.1 lo.2, .complex .f32 hi.1 hi.2, .int .i64 (st : Int)] w (RetZB (cntR n (turnS (rs.map nc) (nc lo) (nc hi) st (4 * st))) w) := by
  obtain ⟨ao, cap, rfl, _⟩ := hv.shape
  rw [cx_length, hn] at hv ⊢
  have Xp := Lib.hid (World.cell?_alloc_new w #[.slice ao (n + 1) cap] 28 0 : (w.alloc (.cells #[.slice ao (n + 1) cap] 28)).cell? ⟨w.heap.size, 0, none⟩ = some (.slice ao (n + 1) cap))
  have Hv := Lib.hid (hv.alloc (.cells #[.slice ao (n + 1) cap] 28))
  have B0 := Lib.hid (show Below w.heap.size w (w.alloc (.cells #[.slice ao (n + 1) cap] 28)) from (Below.refl _ _).alloc (Nat.le_refl _) _)
  have TI := Lib.hid (fun w1 hv => turns_impl (.slice ao (n + 1) cap) rs lo hi st w1 hv (by omega) (by omega) H)
  have DI := Lib.hid (fun w1 hv => degree_impl (.slice ao (n + 1) cap) rs n w1 hv hn h2)
  obtain ⟨s1, s2⟩ := H.sum (4 * st) (Nat.le_refl _)
  have K := cnt_ok s1 s2
  generalize turnS (rs.map nc) (nc lo) (nc hi) st (4 * st) = T at *
  obtain ⟨c1, c2, c3, c4, c5, c6, c7, c8, c9, c10⟩ := K
  have D := deg_f n (by omega)
  have g1 : fN .f64 0 = true := by decide +kernel
  have v1 : vN .f64 0 = 0 := by decide +kernel
  have L1 := cmp_lss c5 g1
  have L2 := cmp_gtr c5 D.1
  rw [c6, v1] at L1
  rw [c6, D.2] at L2
  have HF := Lib.hid (fun x (hx : nrm .f32 x = fop .add .f32 T (nrm .f32 1056964608)) y (hy : nrm .f64 y = wd (nrm .f32 x)) => show y = halfW T from raw_of (X := halfW T) (by rw [hy, hx]; rfl) c3)
  have FL := Lib.hid (fun w1 => floor_lib (halfW T) w1 c4)
  have NF := Lib.hid (show nrm .f64 (floorI (halfW T)) = floorI (halfW T) from fN_nrm c5)
  have CV := Lib.hid c9
  clear hv H s1 s2 c1 c2 c3 c4 c5 c6 c7 c8 c9 g1 v1 D
  have ZL : ∀ z : Int, decide ((z : Rat) < 0) = decide (z < 0) := fun z => by
    by_cases h : z < 0
    · have : (z : Rat) < 0 := by exact_mod_cast h
      simp [h, this]
    · have : ¬ ((z : Rat) < 0) := by
        intro h'
        exact h (by exact_mod_cast h')
      simp [h, this]
  have ZG : ∀ z : Int, decide ((n : Rat) < (z : Rat)) = decide ((n : Int) < z) := fun z => by
    rw [← Rat.intCast_natCast]
    by_cases h : (n : Int) < z
    · have : (((n : Int)) : Rat) < (z : Rat) := by exact_mod_cast h
      simp only [h, this]
    · have : ¬ ((((n : Int)) : Rat) < (z : Rat)) := by
        intro h'
        exact h (by exact_mod_cast h')
      simp only [h, this]
  rw [ZL] at L1
  rw [ZG] at L2
  have HL1 := Lib.hid L1
  have HL2 := Lib.hid L2
  clear L1 L2 ZL ZG
  go_enter Try.func8, Try.ntmps8
  go_wp2_with fail
  (go_at_call 9; ((with_reducible refine (TI.out _ Hv.out).mono ?_); rintro e W ⟨tr, rfl, ht, hb1⟩))
  have xp := (hb1.cell (p := ⟨w.heap.size, 0, none⟩) (by simp)).trans Xp.out
  have Hv1 := Lib.hid (Hv.out.below hb1)
  have B1 := Lib.hid (B0.out.trans (hb1.mono B0.out.size))
  clear hb1 TI Hv B0 Xp
  have HT := Lib.hid ht
  clear ht
  go_upto_region 5 with (first | ((with_reducible refine wpList_fop rfl .add _ _ _ _ rfl rfl .f32 _ _ rfl rfl ?_); intro r mr hr) | ((with_reducible refine wpList_wid rfl _ rfl _ rfl ?_); intro rx mrx hrx))
  have hrx2 : nrm .f64 rx = wd (nrm .f32 r) := hrx
  obtain rfl := HF.out r (by rw [hr, HT.out]) rx hrx2
  clear hr hrx hrx2
  (go_at_call 22; ((with_reducible refine (FL.out _).mono ?_); rintro e w9 ⟨rfl, rfl⟩))
  clear FL HF
  generalize floorI (halfW T) = fl at *
  have nf := NF.out
  have n64 := nrm64_0
  have Hci := Lib.hid (show cntR n T = if 0 ≤ cntI T ∧ cntI T ≤ n then (cntI T, true) else (0, false) from rfl)
  generalize cntI T = z at *
  by_cases h1 : z < 0
  · have hl1 : fcmp .lss .f64 fl 0 = true := by rw [HL1.out]; simp [h1]
    have HC := Lib.hid (show cntR n T = (0, false) by rw [Hci.out, if_neg (by omega)])
    generalize cntR n T = cr at *
    obtain rfl : cr = (0, false) := HC.out
    clear HC Hci HL1 HL2 CV h1
    go_wp2_with fail
    go_ret2
    exact ⟨rfl, below_drewN B1.out _⟩
  · have hl1 : fcmp .lss .f64 fl 0 = false := by rw [HL1.out]; simp [h1]
    by_cases h3 : (n : Int) < z
    · have hl2 : fcmp .gtr .f64 fl (nrm .f64 (floatOfInt .f64 (n : Int))) = true := by rw [HL2.out]; simp [h3]
      have HC := Lib.hid (show cntR n T = (0, false) by rw [Hci.out, if_neg (by omega)])
      generalize cntR n T = cr at *
      obtain rfl : cr = (0, false) := HC.out
      clear HC Hci HL1 HL2 CV h1 h3
      go_wp2_with ((go_at_call 23; go_must (refine (DI.out _ (Hv1.out.below (below_drewN (Below.refl _ _) _))).mono ?_); rintro e w9 ⟨rfl, hb9⟩; have hb9r : Below W.heap.size W w9 := Below.trans (below_drewN (Below.refl _ _) _) hb9; have HB9 := Lib.hid (B1.out.trans (hb9r.mono B1.out.size))))
      go_ret2
      exact ⟨rfl, HB9.out⟩
    · have hl2 : fcmp .gtr .f64 fl (nrm .f64 (floatOfInt .f64 (n : Int))) = false := by rw [HL2.out]; simp [h3]
      have HC := Lib.hid (show cntR n T = (z, true) by rw [Hci.out, if_pos ⟨by omega, by omega⟩])
      generalize cntR n T = cr at *
      obtain rfl : cr = (z, true) := HC.out
      have hcv : ∀ w, (convert 37 2 (.float .f64 fl)).run Try.prog w = .ok (.int .i64 z) w := fun w => run_convert_float_int w _ _ .f64 .i64 fl _ (by rw [Try.underlying37]; rfl) Try.underlying2 CV.out
      clear HC Hci HL1 HL2 CV h1 h3
      go_wp2_with ((go_at_call 23; go_must (refine (DI.out _ (Hv1.out.below (below_drewN (Below.refl _ _) _))).mono ?_); rintro e w9 ⟨rfl, hb9⟩; have hb9r : Below W.heap.size W w9 := Below.trans (below_drewN (Below.refl _ _) _) hb9; have HB9 := Lib.hid (B1.out.trans (hb9r.mono B1.out.size))))
      go_ret2
      exact ⟨rfl, HB9.out⟩

set_option maxRecDepth 100000 in
set_option maxHeartbeats 4000000 in
theorem inbox_spec (p : Nat) (v : Value) (rs : List C2) (n : Nat) (lo hi : C2) (st : Nat) (w : World) (hp : w.cell? ⟨p, 0, none⟩ = some v) (hv : RdV w v (cx rs)) (hn : rs.length = n + 1) (h2 : n ≤ 16) (H : BoxOk (rs.map nc) (nc lo) (nc hi) st) (hlo : nc lo = lo) :
    Calls Try.prog 61 #[.pointer (some ⟨p, 0, none⟩), .complex .f32 lo.1 lo.2, .complex .f32 hi.1 hi.2, .int .i64 (st : Int)] w (RetZB (cntI (turnS (rs.map nc) (nc lo) (nc hi) st (4 * st)), inB 0 (cntI (turnS (rs.map nc) (nc lo) (nc hi) st (4 * st))) n) w) := by
  obtain ⟨ao, cap, rfl, _⟩ := hv.shape
  rw [cx_length, hn] at hv hp
  have lp : p < w.heap.size := World.block_lt_of_cell? _ _ hp
  have Xp := Lib.hid hp
  have TI := Lib.hid (turns_spec p (.slice ao (n + 1) cap) rs lo hi st w hp hv (by omega) (by omega) H hlo)
  obtain ⟨s1, s2⟩ := H.sum (4 * st) (Nat.le_refl _)
  have K := cnt_ok s1 s2
  generalize turnS (rs.map nc) (nc lo) (nc hi) st (4 * st) = T at *
  obtain ⟨c1, c2, c3, c4, c5, c6, c7, c8, c9, c10⟩ := K
  have HF := Lib.hid (fun x (hx : nrm .f32 x = fop .add .f32 T (nrm .f32 1056964608)) y (hy : nrm .f64 y = wd (nrm .f32 x)) => show y = halfW T from raw_of (X := halfW T) (by rw [hy, hx]; rfl) c3)
  have FL := Lib.hid (fun w1 => floor_lib (halfW T) w1 c4)
  have CV := Lib.hid c9
  have qd : IntKind.i64.wrap (((n + 1 : Nat) : Int) - 1) = (n : Int) := by rw [show ((n + 1 : Nat) : Int) - 1 = (n : Int) by omega]; exact IntWalk.i64_in _ ⟨by omega, by omega⟩
  have qd2 : IntKind.i64.wrap ((n : Int)) = (n : Int) := IntWalk.i64_in _ ⟨by omega, by omega⟩
  clear hv H s1 s2 c1 c2 c3 c4 c5 c6 c7 c8 c9 hp
  go_enter Try.func61, Try.ntmps61
  go_wp2_with fail
  (go_at_call 79; ((with_reducible refine (TI.out).mono ?_); rintro e W ⟨tr, rfl, ht, hb1⟩))
  have xp := (hb1.cell (p := ⟨p, 0, none⟩) lp).trans Xp.out
  have B1 := Lib.hid hb1
  clear hb1 TI Xp
  have HT := Lib.hid ht
  clear ht
  go_wp2_with (first | ((with_reducible refine wpList_fop rfl .add _ _ _ _ rfl rfl .f32 _ _ rfl rfl ?_); intro r mr hr) | ((with_reducible refine wpList_wid rfl _ rfl _ rfl ?_); intro rx mrx hrx))
  have hrx2 : nrm .f64 rx = wd (nrm .f32 r) := hrx
  obtain rfl := HF.out r (by rw [hr, HT.out]) rx hrx2
  clear hr hrx hrx2
  (go_at_call 22; ((with_reducible refine (FL.out _).mono ?_); rintro e w9 ⟨rfl, rfl⟩))
  clear FL HF
  generalize floorI (halfW T) = fl at *
  generalize cntI T = z at *
  have hcv : ∀ w, (convert 37 2 (.float .f64 fl)).run Try.prog w = .ok (.int .i64 z) w := fun w => run_convert_float_int w _ _ .f64 .i64 fl _ (by rw [Try.underlying37]; rfl) Try.underlying2 CV.out
  go_wp2_with ((go_at_call 37; ((with_reducible refine (in_spec _ _ _ _).mono ?_); rintro e w11 ⟨rfl, rfl⟩)))
  go_ret2
  exact ⟨rfl, below_drewN B1.out _⟩
end Go.Proofs.Ytklonahkacikbaa

/- The four boxes of a box, of the program and of the reference; pure functions. Conditions: finite corners. -/
namespace Go.Proofs.Ytklonahkacikbaa
open Go Go.RowKit
set_option linter.unusedSimpArgs false
set_option linter.unusedVariables false

def midF (lo hi : C2) : C2 := scaleC (addC lo hi) (nrm .f32 1056964608)
def qLo (lo hi : C2) : Nat → C2 | 0 => lo | 1 => ((midF lo hi).1, lo.2) | 2 => (lo.1, (midF lo hi).2) | _ => midF lo hi
def qHi (lo hi : C2) : Nat → C2 | 0 => midF lo hi | 1 => (hi.1, (midF lo hi).2) | 2 => ((midF lo hi).1, hi.2) | _ => hi
/-- A list of four boxes. -/
def RetQ (lo hi : C2) (w : World) (e : Ending) (w' : World) : Prop := ∃ g, e = .returned (.slice (some ⟨g, 0, none⟩) 4 4) ∧ w.heap.size ≤ g ∧ g < w'.heap.size ∧ Below w.heap.size w w' ∧
  ∀ i, i < 4 → w'.cell? ⟨g, 2 * i, none⟩ = some (.complex .f32 (qLo lo hi i).1 (qLo lo hi i).2) ∧ w'.cell? ⟨g, 2 * i + 1, none⟩ = some (.complex .f32 (qHi lo hi i).1 (qHi lo hi i).2)
theorem quart_cells (W : World) (lo hi m : C2) (hm : m = midF lo hi) (i : Nat) (hi4 : i < 4) :
    (W.alloc (.cells #[.complex .f32 lo.1 lo.2, .complex .f32 m.1 m.2, .complex .f32 m.1 lo.2, .complex .f32 hi.1 m.2, .complex .f32 lo.1 m.2, .complex .f32 m.1 hi.2, .complex .f32 m.1 m.2, .complex .f32 hi.1 hi.2] 66)).cell? ⟨W.heap.size, 2 * i, none⟩ = some (.complex .f32 (qLo lo hi i).1 (qLo lo hi i).2) ∧
    (W.alloc (.cells #[.complex .f32 lo.1 lo.2, .complex .f32 m.1 m.2, .complex .f32 m.1 lo.2, .complex .f32 hi.1 m.2, .complex .f32 lo.1 m.2, .complex .f32 m.1 hi.2, .complex .f32 m.1 m.2, .complex .f32 hi.1 hi.2] 66)).cell? ⟨W.heap.size, 2 * i + 1, none⟩ = some (.complex .f32 (qHi lo hi i).1 (qHi lo hi i).2) := by
  subst hm
  rw [World.cell?_alloc_new, World.cell?_alloc_new]
  rcases (by omega : i = 0 ∨ i = 1 ∨ i = 2 ∨ i = 3) with rfl | rfl | rfl | rfl <;> exact ⟨rfl, rfl⟩
set_option maxRecDepth 100000 in
set_option maxHeartbeats 1000000 in
theorem quarters_impl (lo hi : C2) (hlo : nc lo = lo) (hhi : nc hi = hi) (hm : fC (midF lo hi)) (w : World) : Calls Try.prog 36 #[.complex .f32 lo.1 lo.2, .complex .f32 hi.1 hi.2] w (RetQ lo hi w) := by
  have HM := Lib.hid hm
  have HL := Lib.hid hlo
  have HR := Lib.hid hhi
  clear hm hlo hhi
  go_enter Try.func36, Try.ntmps36
  go_wp2_with (first
    | (go_at_call 29; ((with_reducible refine (plus_impl lo hi _).mono ?_); rintro e w1 ⟨a1, a2, m1, rfl, ha1, ha2, rfl⟩; have HA := Lib.hid (show nc (a1, a2) = addC lo hi from (show nc (a1, a2) = _ from Prod.ext ha1 ha2).trans (by rw [HL.out, HR.out])); clear ha1 ha2))
    | (go_at_call 30; ((with_reducible refine (scale_impl (a1, a2) _ _).mono ?_); rintro e w2 ⟨b1, b2, m2, rfl, hb1, hb2, rfl⟩; have HB := Lib.hid (show (b1, b2) = midF lo hi from raw_c ((show nc (b1, b2) = _ from Prod.ext hb1 hb2).trans (by rw [HA.out]; rfl)) HM.out); clear hb1 hb2)))
  go_ret
  exact ⟨w.heap.size, by simp, Nat.le_refl w.heap.size, by simp, (below_drewN (Below.refl _ _) _).alloc (Nat.le_refl _) _, fun i hi4 => quart_cells (w.drewN (m1 + m2)) lo hi (b1, b2) HB.out i hi4⟩
/-- Two lists of four corners. -/
def RetQ2 (lo hi : C2) (w : World) (e : Ending) (w' : World) : Prop := ∃ g h, e = .returned (.tuple #[.slice (some ⟨g, 0, none⟩) 4 4, .slice (some ⟨h, 0, none⟩) 4 4]) ∧ w.heap.size ≤ g ∧ g < w'.heap.size ∧ w.heap.size ≤ h ∧ h < w'.heap.size ∧ Below w.heap.size w w' ∧
  ∀ i, i < 4 → w'.cell? ⟨g, i, none⟩ = some (.complex .f32 (qLo lo hi i).1 (qLo lo hi i).2) ∧ w'.cell? ⟨h, i, none⟩ = some (.complex .f32 (qHi lo hi i).1 (qHi lo hi i).2)
theorem quart2_cells (W : World) (lo hi m : C2) (hm : m = midF lo hi) (i : Nat) (hi4 : i < 4) :
    ((W.alloc (.cells #[.complex .f32 lo.1 lo.2, .complex .f32 m.1 lo.2, .complex .f32 lo.1 m.2, .complex .f32 m.1 m.2] 31)).alloc (.cells #[.complex .f32 m.1 m.2, .complex .f32 hi.1 m.2, .complex .f32 m.1 hi.2, .complex .f32 hi.1 hi.2] 31)).cell? ⟨W.heap.size, i, none⟩ = some (.complex .f32 (qLo lo hi i).1 (qLo lo hi i).2) ∧
    ((W.alloc (.cells #[.complex .f32 lo.1 lo.2, .complex .f32 m.1 lo.2, .complex .f32 lo.1 m.2, .complex .f32 m.1 m.2] 31)).alloc (.cells #[.complex .f32 m.1 m.2, .complex .f32 hi.1 m.2, .complex .f32 m.1 hi.2, .complex .f32 hi.1 hi.2] 31)).cell? ⟨W.heap.size + 1, i, none⟩ = some (.complex .f32 (qHi lo hi i).1 (qHi lo hi i).2) := by
  subst hm
  have z1 : (W.alloc (.cells #[.complex .f32 lo.1 lo.2, .complex .f32 (midF lo hi).1 lo.2, .complex .f32 lo.1 (midF lo hi).2, .complex .f32 (midF lo hi).1 (midF lo hi).2] 31)).heap.size = W.heap.size + 1 := by simp
  have C1 := World.cell?_alloc_new W #[.complex .f32 lo.1 lo.2, .complex .f32 (midF lo hi).1 lo.2, .complex .f32 lo.1 (midF lo hi).2, .complex .f32 (midF lo hi).1 (midF lo hi).2] 31 i
  have C2 := World.cell?_alloc_new (W.alloc (.cells #[.complex .f32 lo.1 lo.2, .complex .f32 (midF lo hi).1 lo.2, .complex .f32 lo.1 (midF lo hi).2, .complex .f32 (midF lo hi).1 (midF lo hi).2] 31)) #[.complex .f32 (midF lo hi).1 (midF lo hi).2, .complex .f32 hi.1 (midF lo hi).2, .complex .f32 (midF lo hi).1 hi.2, .complex .f32 hi.1 hi.2] 31 i
  rw [z1] at C2
  rw [C2]
  have B2 := (Below.refl (W.alloc (.cells #[.complex .f32 lo.1 lo.2, .complex .f32 (midF lo hi).1 lo.2, .complex .f32 lo.1 (midF lo hi).2, .complex .f32 (midF lo hi).1 (midF lo hi).2] 31)).heap.size (W.alloc (.cells #[.complex .f32 lo.1 lo.2, .complex .f32 (midF lo hi).1 lo.2, .complex .f32 lo.1 (midF lo hi).2, .complex .f32 (midF lo hi).1 (midF lo hi).2] 31))).alloc (Nat.le_refl _) (.cells #[.complex .f32 (midF lo hi).1 (midF lo hi).2, .complex .f32 hi.1 (midF lo hi).2, .complex .f32 (midF lo hi).1 hi.2, .complex .f32 hi.1 hi.2] 31)
  rw [B2.cell (p := ⟨W.heap.size, i, none⟩) (by simp only [z1]; omega), C1]
  rcases (by omega : i = 0 ∨ i = 1 ∨ i = 2 ∨ i = 3) with rfl | rfl | rfl | rfl <;> exact ⟨rfl, rfl⟩
set_option maxRecDepth 100000 in
set_option maxHeartbeats 1000000 in
theorem quarters_spec (lo hi : C2) (hlo : nc lo = lo) (hhi : nc hi = hi) (hm : fC (midF lo hi)) (w : World) : Calls Try.prog 38 #[.complex .f32 lo.1 lo.2, .complex .f32 hi.1 hi.2] w (RetQ2 lo hi w) := by
  have HM := Lib.hid hm
  have HL := Lib.hid hlo
  have HR := Lib.hid hhi
  clear hm hlo hhi
  go_enter Try.func38, Try.ntmps38
  go_wp2_with (first
    | ((with_reducible refine wpList_cadd rfl .add (.inl rfl) _ _ _ _ rfl _ _ _ _ rfl rfl ?_); intro a1 a2 m1 ha1 ha2; have HA := Lib.hid (show nc (a1, a2) = addC lo hi from (show nc (a1, a2) = addC (nc lo) (nc hi) from Prod.ext ha1 ha2).trans (by rw [HL.out, HR.out])); clear ha1 ha2)
    | (go_at_call 62; ((with_reducible refine (times3_spec (a1, a2) _ _).mono ?_); rintro e w2 ⟨b1, b2, m2, rfl, hb1, hb2, rfl⟩; have HB := Lib.hid (show (b1, b2) = midF lo hi from raw_c ((show nc (b1, b2) = _ from Prod.ext hb1 hb2).trans (by rw [HA.out]; rfl)) HM.out); clear hb1 hb2)))
  go_ret2
  exact ⟨w.heap.size, w.heap.size + 1, by first | rfl | simp, Nat.le_refl _, by simp; omega, by omega, by simp, ((below_drewN (Below.refl _ _) _).alloc (Nat.le_refl _) _).alloc (by simp) _, fun i hi4 => quart2_cells (w.drewN (m1 + m2)) lo hi (b1, b2) HB.out i hi4⟩
end Go.Proofs.Ytklonahkacikbaa

/- The counts in the four boxes of a box, of the program. Conditions: nothing is too great and no value is 0 around the four boxes. -/
namespace Go.Proofs.Ytklonahkacikbaa
open Go Go.RowKit
set_option linter.unusedSimpArgs false
set_option linter.unusedVariables false

def TQ (F : List C2) (lo hi : C2) (st i : Nat) : Nat := turnS F (qLo lo hi i) (qHi lo hi i) st (4 * st)
def fourR (d : Int) (T : Nat → Nat) : List Int × Bool := if (List.range 4).all (fun i => (cntR d (T i)).2) = true then ((List.range 4).map fun i => cntI (T i), true) else ([], false)
/-- What the walks of the four boxes need. -/
structure FourOk (F : List C2) (lo hi : C2) (st : Nat) : Prop where
  root : rootedF F = true
  box : boxF lo hi = true
  s4 : 4 ≤ st
  s60 : st ≤ 60
  ln : nc lo = lo
  hn : nc hi = hi
  q : ∀ i, i < 4 → BoxOk F (qLo lo hi i) (qHi lo hi i) st
theorem box_fin {lo hi : C2} (h : boxF lo hi = true) : fC lo ∧ fC hi := by
  unfold boxF at h
  simp only [Bool.and_eq_true] at h
  exact ⟨(fC_iff _).2 h.1.1.1.1, (fC_iff _).2 h.1.1.1.2⟩
theorem FourOk.mid {F : List C2} {lo hi : C2} {st : Nat} (h : FourOk F lo hi st) : fC (midF lo hi) := (box_fin (h.q 0 (by decide)).box).2
theorem FourOk.qn {F : List C2} {lo hi : C2} {st : Nat} (h : FourOk F lo hi st) {i : Nat} (hi4 : i < 4) : nc (qLo lo hi i) = qLo lo hi i ∧ nc (qHi lo hi i) = qHi lo hi i := by
  obtain ⟨a, b⟩ := box_fin (h.q i hi4).box
  exact ⟨nc_fin a, nc_fin b⟩
def RetLZ (F : List Int × Bool) (w : World) (e : Ending) (w' : World) : Prop := ∃ v, e = .returned (.tuple #[v, .bool F.2]) ∧ RdV w' v (gi F.1) ∧ Below w.heap.size w w'
theorem fourR_bad {d : Int} {T : Nat → Nat} {i : Nat} (hi4 : i < 4) (h : (cntR d (T i)).2 = false) : fourR d T = ([], false) := by
  unfold fourR
  rw [if_neg]
  rw [List.all_eq_true]
  intro h'
  have := h' i (List.mem_range.2 hi4)
  rw [h] at this
  cases this
theorem fourR_good {d : Int} {T : Nat → Nat} (h : ∀ i, i < 4 → (cntR d (T i)).2 = true) : fourR d T = ((List.range 4).map fun i => cntI (T i), true) := by
  unfold fourR
  rw [if_pos]
  rw [List.all_eq_true]
  intro i hi
  exact h i (List.mem_range.1 hi)
theorem cntR_good {d : Int} {s : Nat} (h : (cntR d s).2 = true) : (cntR d s).1 = cntI s := by
  unfold cntR at h ⊢
  split at h
  · rename_i h'; rw [if_pos h']
  · cases h
theorem rd_nil (w : World) : RdV w (.slice none 0 0) (gi []) := ⟨none, 0, rfl, ⟨Nat.le_refl _, Nat.zero_le _⟩, .inl rfl⟩
set_option maxRecDepth 100000 in
set_option maxHeartbeats 8000000 in
theorem four_impl (v : Value) (rs : List C2) (n : Nat) (lo hi : C2) (st : Nat) (w : World) (hv : RdV w v (cx rs)) (hn : rs.length = n + 1) (h1 : 1 ≤ n) (h2 : n ≤ 16) (H : FourOk (rs.map nc) lo hi st) :
    Calls Try.prog 12 #[.agg #[v], .complex .f32 lo.1 lo.2, .complex .f32 hi.1 hi.2, .int .i64 (st : Int)] w (RetLZ (fourR n (TQ (rs.map nc) lo hi st)) w) := by
  obtain ⟨ao, cap, rfl, _⟩ := hv.shape
  rw [cx_length, hn] at hv ⊢
  have s4 := H.s4
  have s60 := H.s60
  have I1 := Lib.hid (show inB 4 (st : Int) 64 = true by simp [inB]; omega)
  have Xp := Lib.hid (World.cell?_alloc_new w #[.slice ao (n + 1) cap] 28 0 : (w.alloc (.cells #[.slice ao (n + 1) cap] 28)).cell? ⟨w.heap.size, 0, none⟩ = some (.slice ao (n + 1) cap))
  have Hv := Lib.hid (hv.alloc (.cells #[.slice ao (n + 1) cap] 28))
  have B0 := Lib.hid (show Below w.heap.size w (w.alloc (.cells #[.slice ao (n + 1) cap] 28)) from (Below.refl _ _).alloc (Nat.le_refl _) _)
  have RI := Lib.hid (fun w1 hv => rooted_impl (.slice ao (n + 1) cap) rs w1 hv (by omega) (by omega))
  rw [H.root] at RI
  have BX := Lib.hid (fun w1 => box_impl lo hi (by rw [H.ln, H.hn]; exact H.box) w1)
  have QI := Lib.hid (fun w1 => quarters_impl lo hi H.ln H.hn H.mid w1)
  have RO := Lib.hid (fun i (hi4 : i < 4) w1 hv => roots_impl (.slice ao (n + 1) cap) rs n (qLo lo hi i) (qHi lo hi i) st w1 hv hn h2 (by rw [(H.qn hi4).1, (H.qn hi4).2]; exact H.q i hi4))
  have RE := Lib.hid (fun i (hi4 : i < 4) => show turnS (rs.map nc) (nc (qLo lo hi i)) (nc (qHi lo hi i)) st (4 * st) = TQ (rs.map nc) lo hi st i from by rw [(H.qn hi4).1, (H.qn hi4).2]; rfl)
  generalize TQ (rs.map nc) lo hi st = T at *
  clear hv h1 h2 H
  go_enter Try.func12, Try.ntmps12
  go_wp2_with fail
  refine (RI.out _ Hv.out).mono ?_
  rintro e w1 ⟨rfl, hb1⟩
  replace Xp := Lib.hid ((hb1.cell (p := ⟨w.heap.size, 0, none⟩) (World.block_lt_of_cell? _ _ Xp.out)).trans Xp.out)
  replace Hv := Lib.hid (Hv.out.below hb1)
  replace B0 := Lib.hid (B0.out.trans (hb1.mono B0.out.size))
  clear hb1
  go_wp2_with fail
  refine (BX.out _).mono ?_
  rintro e W ⟨rfl, hb3⟩
  replace Xp := Lib.hid ((hb3.cell (p := ⟨w.heap.size, 0, none⟩) (World.block_lt_of_cell? _ _ Xp.out)).trans Xp.out)
  replace Hv := Lib.hid (Hv.out.below hb3)
  replace B0 := Lib.hid (B0.out.trans (hb3.mono B0.out.size))
  clear hb3
  have lp : w.heap.size < W.heap.size := World.block_lt_of_cell? _ _ Xp.out
  clear RI BX
  go_wp2_with (go_at_call 26; ((with_reducible refine (within_impl _ _ _ _).mono ?_); rintro e w8 ⟨rfl, rfl⟩; rw [I1.out]))
  have b2 : Below W.heap.size W (W.alloc (.cells #[] 2)) := (Below.refl _ _).alloc (Nat.le_refl _) _
  have hr0 : RowV 2 (W.alloc (.cells #[] 2)) W.heap.size (.slice (some ⟨W.heap.size, 0, none⟩) 0 0) (gi []) := row_nilS rfl (Nat.le_refl _) _
  have z2 : (W.alloc (.cells #[] 2)).heap.size = W.heap.size + 1 := by simp
  generalize (W.alloc (.cells #[] 2)) = W2 at *
  (go_at_call 36; ((with_reducible refine (QI.out _).mono ?_); rintro e W3 ⟨g, rfl, hg1, hg2, hb3, hcl⟩))
  have HC := Lib.hid hcl
  have hr3 := hr0.below hb3
  have B3 := Lib.hid (b2.trans (hb3.mono (show W.heap.size ≤ W2.heap.size by omega)))
  have hs3 := hb3.size
  have Xp3 := Lib.hid ((B3.out.cell (p := ⟨w.heap.size, 0, none⟩) lp).trans Xp.out)
  have Hv3 := Lib.hid (Hv.out.below B3.out)
  have BB3 := Lib.hid (B0.out.trans (B3.out.mono (show w.heap.size ≤ W.heap.size by omega)))
  clear hcl hr0 b2 hb3 QI
  go_wp2_with fail
  go_loopw [10, 34] (fun ov iv wr => ∃ (i : Nat), i ≤ 4 ∧ iv = .int .i64 (i : Int) ∧ RowV 2 wr W.heap.size ov (gi ((List.range i).map (fun i => cntI (T i)))) ∧ (∀ j, j < i → (cntR n (T j)).2 = true) ∧ Below W.heap.size W wr ∧ W3.heap.size ≤ wr.heap.size ∧ (∀ i, i < 4 → wr.cell? ⟨g, 2 * i, none⟩ = some (.complex .f32 (qLo lo hi i).1 (qLo lo hi i).2) ∧ wr.cell? ⟨g, 2 * i + 1, none⟩ = some (.complex .f32 (qHi lo hi i).1 (qHi lo hi i).2)) ∧ (∀ k, ov.ownBlock = some k → k ≠ g)) (fun _ iv _ => 4 - (intOf iv).toNat)
  case atStart => exact ⟨0, by omega, rfl, hr3, fun j hj => absurd hj (by omega), B3.out, Nat.le_refl _, HC.out, fun k hk => by simp [Value.ownBlock] at hk; omega⟩
  case round =>
    obtain ⟨i, hi4, rfl, hrow, hall, hbel, hsz, hcl, hne⟩ := hrel
    by_cases hlt : i < 4
    · have j1 : (i : Int) < 4 := by omega
      have j0 : (0 : Int) ≤ (i : Int) := by omega
      have l3 : g < W3.heap.size := hg2
      have cA := (hcl i hlt).1
      have cB := (hcl i hlt).2
      have cA2 : wr.cell? ⟨g, i * 2, none⟩ = some (.complex .f32 (qLo lo hi i).1 (qLo lo hi i).2) := by rw [Nat.mul_comm]; exact cA
      have cB2 : wr.cell? ⟨g, i * 2 + 1, none⟩ = some (.complex .f32 (qHi lo hi i).1 (qHi lo hi i).2) := by rw [Nat.mul_comm]; exact cB
      have xp := (hbel.cell (p := ⟨w.heap.size, 0, none⟩) lp).trans Xp.out
      have Hrow := Lib.hid hrow
      have Hall := Lib.hid hall
      have Hbel := Lib.hid hbel
      have Hvr := Lib.hid (Hv.out.below hbel)
      have Hcl := Lib.hid hcl
      have Hne := Lib.hid hne
      have lgr : g < wr.heap.size := by omega
      have ROi := Lib.hid (RO.out i hlt)
      have REi := Lib.hid (RE.out i hlt)
      clear hrow hall hbel hcl hne RO RE
      have lw : w.heap.size < wr.heap.size := by omega
      have lw2 : wr.heap.size < wr.heap.size + 1 := by omega
      go_wp2_with fail
      (go_at_call 8; ((with_reducible refine (ROi.out _ (Hvr.out.alloc _)).mono ?_); rintro e w9 ⟨rfl, hb9⟩))
      rw [REi.out]
      have hb9r : Below wr.heap.size wr w9 := Below.trans ((Below.refl _ _).alloc (Nat.le_refl _) _) (hb9.mono (by simp))
      have hs9 := hb9r.size
      have hrow := Hrow.out.below hb9r
      have HB9 := Lib.hid (Hbel.out.trans (hb9r.mono (show W.heap.size ≤ wr.heap.size by omega)))
      have HC9 := Lib.hid (fun j (hj : j < 4) => And.intro ((hb9r.cell (p := ⟨g, 2 * j, none⟩) lgr).trans (Hcl.out j hj).1) ((hb9r.cell (p := ⟨g, 2 * j + 1, none⟩) lgr).trans (Hcl.out j hj).2))
      have lg9 : g < w9.heap.size := by omega
      clear hb9 cA cB cA2 cB2 xp Hvr ROi REi Hrow Hbel
      have Hl := Lib.hid (show (gi ((List.range i).map (fun i => cntI (T i)))).length ≤ 1099511627776 by simp; omega)
      cases hok : (cntR n (T i)).2
      · have FB := Lib.hid (fourR_bad hlt hok)
        have HBB := Lib.hid (B0.out.trans (HB9.out.mono (show w.heap.size ≤ W.heap.size by omega)))
        go_wp2_with fail
        go_ret2
        rw [FB.out]
        exact ⟨_, rfl, rd_nil _, HBB.out⟩
      · have HE := Lib.hid (cntR_good hok)
        have Hok := Lib.hid hok
        rw [HE.out]
        clear hok
        go_wp2_with (at_builtin; go_must (refine wpList_pushV (.int .i64 0) 8 hrow infoI rfl rfl (by decide) rfl _ _ rfl Try.underlying39 Hl.out (by omega) rfl rfl rfl rfl rfl rfl ?_); intro v1 w1 hr1 hb1 hg1 ho1)
        go_roundw
        case rel => exact ⟨i + 1, by omega, by go_num, by rw [← grid_succ (fun i => cntI (T i))]; exact hr1, fun j hj => by
          by_cases hji : j < i
          · exact Hall.out j hji
          · obtain rfl : j = i := by omega
            exact Hok.out, HB9.out.trans hb1, by have := hb1.size; omega, fun j hj => And.intro ((World.cell?_of_block (hg1.block g lg9 (fun h => Hne.out g h.symm rfl))).trans (HC9.out j hj).1) ((World.cell?_of_block (hg1.block g lg9 (fun h => Hne.out g h.symm rfl))).trans (HC9.out j hj).2), fun k hk => by
          rcases ho1 with h | ⟨g', h, hg'⟩
          · exact Hne.out k (h ▸ hk)
          · rw [h] at hk; cases hk; omega⟩
        case measure => simp [intOf]; omega
    · obtain rfl : i = 4 := by omega
      have FG := Lib.hid (fourR_good hall)
      have HBB := Lib.hid (B0.out.trans (hbel.mono (show w.heap.size ≤ W.heap.size by omega)))
      have HRD := Lib.hid hrow.rd
      clear hrow hbel hall
      go_wp2_with fail
      go_ret2
      rw [FG.out]
      exact ⟨_, rfl, HRD.out, HBB.out⟩
end Go.Proofs.Ytklonahkacikbaa
