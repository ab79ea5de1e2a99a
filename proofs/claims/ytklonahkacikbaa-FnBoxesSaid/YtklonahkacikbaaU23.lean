/- The walk around a box is safe where its values are told, plainly; points on the edges. Conditions: corners of at most 65 / 8. -/
import Derived.Test.YtklonahkacikbaaU22
import Derived.Test.YtklonahkacikbaaU14
import Derived.Test.YtklonahkacikbaaU18
import Derived.Test.YtklonahkacikbaaU11
import Derived.Test.YtklonahkacikbaaU17
namespace Go.Proofs.Ytklonahkacikbaa
open Go
set_option linter.unusedSimpArgs false
set_option linter.unusedVariables false

theorem rat_add {a b c d : Rat} (h : a ≤ b) (k : c ≤ d) : a + c ≤ b + d := by grind
theorem quo_small {v s q : Q2} (hq : q * s = v) (hs : 1 / 512 ≤ N s) (hv : N v ≤ p2 40) : N q ≤ p2 50 := by
  have e : sqN q * sqN s = sqN v := by rw [← sqN_mul, hq]
  have a := sqN_ge s
  have b := sqN_le v
  have c := sqN_ge q
  have d := mul_le hs hs (by decide +kernel) (N_nonneg s)
  have f := mul_le hv hv (N_nonneg v) (by decide +kernel)
  have s0 : 1 / 524288 ≤ sqN s := by grind
  have g := Rat.mul_le_mul_of_nonneg_left s0 (sqN_nonneg q)
  have k : p2 40 * p2 40 * 1048576 ≤ p2 50 * p2 50 := by decide +kernel
  refine sq_le_sq (by decide +kernel) ?_
  grind
theorem valq {F : List C2} {z z' : C2} (h : ValOk F z) (h' : ValOk F z') : quoFit (nestedF F z') (nestedF F z) ∧ fC (quoC (nestedF F z') (nestedF F z)) ∧ A (cv (quoC (nestedF F z') (nestedF F z))).re < p2 1023 ∧ A (cv (quoC (nestedF F z') (nestedF F z))).im < p2 1023 := by
  obtain ⟨q, hq⟩ := quo_ex (cv (nestedF F z')) (s := cv (nestedF F z)) (by have := h.lo; grind)
  have nq := quo_small hq h.lo h'.hi
  obtain ⟨f, n1, n2⟩ := quoC_near h'.fv h.fv hq (lt_of_p2 h'.hi (by decide)) (lt_of_p2 h.hi (by decide)) (Rat.le_trans (by decide +kernel) h.lo) (lt_of_p2 nq (by decide))
  have t := N_tri (cv (quoC (nestedF F z') (nestedF F z))) q
  have m := Rat.mul_le_mul_of_nonneg_left nq (Rat.le_of_lt u1_pos)
  have k : p2 50 + (u1 * p2 50 + e1) ≤ p2 52 := by decide +kernel
  have b : N (cv (quoC (nestedF F z') (nestedF F z))) ≤ p2 52 := by
    generalize u1 = u at *
    generalize e1 = e at *
    generalize p2 50 = a at *
    generalize p2 52 = c at *
    grind
  exact ⟨f, n1, lt_of_p2 (Rat.le_trans (re_le_N _) b) (by decide), lt_of_p2 (Rat.le_trans (im_le_N _) b) (by decide)⟩
/-- A point between two numbers. -/
theorem side_pt {a b f : Nat} (fa : fN .f32 a = true) (fb : fN .f32 b = true) (ha : A (vN .f32 a) ≤ 65 / 8) (hb : A (vN .f32 b) ≤ 65 / 8) (ff : fN .f32 f = true) (f0 : 0 ≤ vN .f32 f) (f1 : vN .f32 f ≤ 1) :
    fN .f32 (fop .add .f32 a (fop .mul .f32 (fop .sub .f32 b a) f)) = true ∧ A (vN .f32 (fop .add .f32 a (fop .mul .f32 (fop .sub .f32 b a) f))) ≤ 82 / 10 ∧ (a = b → vN .f32 (fop .add .f32 a (fop .mul .f32 (fop .sub .f32 b a) f)) = vN .f32 a) := by
  have q1 : A (vN .f32 b - vN .f32 a) ≤ 65 / 4 := Rat.le_trans (abs_s hb ha) (by decide +kernel)
  have R1 := fop_sub_res fb fa (lt_of_p2 (a := 10) (Rat.le_trans q1 (by decide +kernel)) (by decide))
  have N1 := near1_res R1
  have k1 : u1 * (65 / 4) + p2 (-149) ≤ 1 / 100000 := by decide +kernel
  have up := Rat.le_of_lt u1_pos
  have e1' : A (vN .f32 (fop .sub .f32 b a) - (vN .f32 b - vN .f32 a)) ≤ 1 / 100000 := by
    have m := Rat.mul_le_mul_of_nonneg_left q1 up
    exact Rat.le_trans N1.2 (Rat.le_trans (by generalize u1 = u at *; generalize p2 (-149) = w at *; clear k1; grind) k1)
  have q2 : A (vN .f32 (fop .sub .f32 b a)) ≤ 17 := by
    have := abs_a e1' q1
    rw [show vN .f32 (fop .sub .f32 b a) - (vN .f32 b - vN .f32 a) + (vN .f32 b - vN .f32 a) = vN .f32 (fop .sub .f32 b a) by grind] at this
    exact Rat.le_trans this (by decide +kernel)
  have fA : A (vN .f32 f) ≤ 1 := by rw [A_of_nonneg f0]; exact f1
  have q3 : A (vN .f32 (fop .sub .f32 b a) * vN .f32 f) ≤ 17 := Rat.le_trans (abs_m q2 fA) (by decide +kernel)
  have R2 := fop_mul_res R1.1 ff (lt_of_p2 (a := 10) (Rat.le_trans q3 (by decide +kernel)) (by decide))
  have N2 := near1_res R2
  have k2 : u1 * 17 + p2 (-149) ≤ 1 / 100000 := by decide +kernel
  have e2' : A (vN .f32 (fop .mul .f32 (fop .sub .f32 b a) f) - vN .f32 (fop .sub .f32 b a) * vN .f32 f) ≤ 1 / 100000 := by
    have m := Rat.mul_le_mul_of_nonneg_left q3 up
    exact Rat.le_trans N2.2 (Rat.le_trans (by generalize u1 = u at *; generalize p2 (-149) = w at *; clear k1 k2; grind) k2)
  have q4 : A (vN .f32 (fop .mul .f32 (fop .sub .f32 b a) f)) ≤ 18 := by
    have := abs_a e2' q3
    rw [show vN .f32 (fop .mul .f32 (fop .sub .f32 b a) f) - vN .f32 (fop .sub .f32 b a) * vN .f32 f + vN .f32 (fop .sub .f32 b a) * vN .f32 f = vN .f32 (fop .mul .f32 (fop .sub .f32 b a) f) by grind] at this
    exact Rat.le_trans this (by decide +kernel)
  have q5 : A (vN .f32 a + vN .f32 (fop .mul .f32 (fop .sub .f32 b a) f)) ≤ 27 := Rat.le_trans (abs_a ha q4) (by decide +kernel)
  have R3 := fop_add_res fa R2.1 (lt_of_p2 (a := 10) (Rat.le_trans q5 (by decide +kernel)) (by decide))
  have N3 := near1_res R3
  have k3 : u1 * 27 + p2 (-149) ≤ 1 / 100000 := by decide +kernel
  have e3' : A (vN .f32 (fop .add .f32 a (fop .mul .f32 (fop .sub .f32 b a) f)) - (vN .f32 a + vN .f32 (fop .mul .f32 (fop .sub .f32 b a) f))) ≤ 1 / 100000 := by
    have m := Rat.mul_le_mul_of_nonneg_left q5 up
    exact Rat.le_trans N3.2 (Rat.le_trans (by generalize u1 = u at *; generalize p2 (-149) = w at *; clear k1 k2 k3; grind) k3)
  refine ⟨R3.1, ?_, fun hab => ?_⟩
  · have cx : A (vN .f32 a + (vN .f32 b - vN .f32 a) * vN .f32 f) ≤ 65 / 8 := by
      have g0 : 0 ≤ 1 - vN .f32 f := by grind
      have m1 := Rat.mul_le_mul_of_nonneg_right ha g0
      have m2 := Rat.mul_le_mul_of_nonneg_right hb f0
      have t := A_add (vN .f32 a * (1 - vN .f32 f)) (vN .f32 b * vN .f32 f)
      rw [A_mul, A_mul, A_of_nonneg g0, A_of_nonneg f0] at t
      rw [show vN .f32 a * (1 - vN .f32 f) + vN .f32 b * vN .f32 f = vN .f32 a + (vN .f32 b - vN .f32 a) * vN .f32 f by grind] at t
      grind
    have s1 := abs_m e1' fA
    have s2 := abs_a (abs_a (abs_a e3' e2') s1) cx
    rw [show vN .f32 (fop .add .f32 a (fop .mul .f32 (fop .sub .f32 b a) f)) - (vN .f32 a + vN .f32 (fop .mul .f32 (fop .sub .f32 b a) f)) + (vN .f32 (fop .mul .f32 (fop .sub .f32 b a) f) - vN .f32 (fop .sub .f32 b a) * vN .f32 f) + (vN .f32 (fop .sub .f32 b a) - (vN .f32 b - vN .f32 a)) * vN .f32 f + (vN .f32 a + (vN .f32 b - vN .f32 a) * vN .f32 f) = vN .f32 (fop .add .f32 a (fop .mul .f32 (fop .sub .f32 b a) f)) by grind] at s2
    exact Rat.le_trans s2 (by decide +kernel)
  · subst hab
    have z1 : vN .f32 (fop .sub .f32 a a) = 0 := by
      have z : vN .f32 a - vN .f32 a = 0 := by grind
      rw [z] at R1
      exact R1.2.2 0 0 (by rw [A_zero, show ((0 : Nat) : Rat) = 0 from rfl]; grind) (by decide) (by decide)
    have z2 : vN .f32 (fop .mul .f32 (fop .sub .f32 a a) f) = 0 := by
      have z : vN .f32 (fop .sub .f32 a a) * vN .f32 f = 0 := by rw [z1]; grind
      rw [z] at R2
      exact R2.2.2 0 0 (by rw [A_zero, show ((0 : Nat) : Rat) = 0 from rfl]; grind) (by decide) (by decide)
    have z3 : vN .f32 a + vN .f32 (fop .mul .f32 (fop .sub .f32 a a) f) = vN .f32 a := by rw [z2]; grind
    rw [z3] at R3
    obtain ⟨m, e, g1, g2, g3⟩ := vN_lt .f32 fa
    exact R3.2.2 m e g1 g2 g3
theorem frac_tab : (∀ k, k < 40 → fN .f32 (fracF k 40) = true ∧ 0 ≤ vN .f32 (fracF k 40) ∧ vN .f32 (fracF k 40) ≤ 1) ∧ (∀ k, k < 60 → fN .f32 (fracF k 60) = true ∧ 0 ≤ vN .f32 (fracF k 60) ∧ vN .f32 (fracF k 60) ≤ 1) := by decide +kernel
theorem frac_ok {k st : Nat} (hst : st = 40 ∨ st = 60) (hk : k < st) : fN .f32 (fracF k st) = true ∧ 0 ≤ vN .f32 (fracF k st) ∧ vN .f32 (fracF k st) ≤ 1 := by
  rcases hst with rfl | rfl
  · exact frac_tab.1 k hk
  · exact frac_tab.2 k hk
/-- Corners of a moderate size. -/
structure BoxW (lo hi : C2) : Prop where
  l1 : fN .f32 lo.1 = true ∧ A (vN .f32 lo.1) ≤ 65 / 8
  l2 : fN .f32 lo.2 = true ∧ A (vN .f32 lo.2) ≤ 65 / 8
  h1 : fN .f32 hi.1 = true ∧ A (vN .f32 hi.1) ≤ 65 / 8
  h2 : fN .f32 hi.2 = true ∧ A (vN .f32 hi.2) ≤ 65 / 8
theorem pt_of {lo hi : C2} (B : BoxW lo hi) {st s k : Nat} (hst : st = 40 ∨ st = 60) (hs : s < 4) (hk : k < st) :
    fC (bpt lo hi st s k) ∧ N (cv (bpt lo hi st s k)) ≤ 33 / 2 ∧ ((cv (bpt lo hi st s k)).re = vN .f32 lo.1 ∨ (cv (bpt lo hi st s k)).re = vN .f32 hi.1 ∨ (cv (bpt lo hi st s k)).im = vN .f32 lo.2 ∨ (cv (bpt lo hi st s k)).im = vN .f32 hi.2) := by
  obtain ⟨ff, f0, f1⟩ := frac_ok hst hk
  have key : ∀ a b c d : Nat, (fN .f32 a = true ∧ A (vN .f32 a) ≤ 65 / 8) → (fN .f32 b = true ∧ A (vN .f32 b) ≤ 65 / 8) → (fN .f32 c = true ∧ A (vN .f32 c) ≤ 65 / 8) → (fN .f32 d = true ∧ A (vN .f32 d) ≤ 65 / 8) → bpt lo hi st s k = addC (a, c) (scaleC (subC (b, d) (a, c)) (fracF k st)) →
      fC (bpt lo hi st s k) ∧ N (cv (bpt lo hi st s k)) ≤ 33 / 2 ∧ (a = b → (cv (bpt lo hi st s k)).re = vN .f32 a) ∧ (c = d → (cv (bpt lo hi st s k)).im = vN .f32 c) := by
    intro a b c d ha hb hc hd e
    obtain ⟨x1, x2, x3⟩ := side_pt ha.1 hb.1 ha.2 hb.2 ff f0 f1
    obtain ⟨y1, y2, y3⟩ := side_pt hc.1 hd.1 hc.2 hd.2 ff f0 f1
    rw [e]
    exact ⟨⟨x1, y1⟩, by
      show A (vN .f32 _) + A (vN .f32 _) ≤ _
      have := rat_add x2 y2
      exact Rat.le_trans this (by decide +kernel), x3, y3⟩
  rcases (by omega : s = 0 ∨ s = 1 ∨ s = 2 ∨ s = 3) with rfl | rfl | rfl | rfl
  · obtain ⟨a, b, c, d⟩ := key lo.1 hi.1 lo.2 lo.2 B.l1 B.h1 B.l2 B.l2 rfl
    exact ⟨a, b, .inr (.inr (.inl (d rfl)))⟩
  · obtain ⟨a, b, c, d⟩ := key hi.1 hi.1 lo.2 hi.2 B.h1 B.h1 B.l2 B.h2 rfl
    exact ⟨a, b, .inr (.inl (c rfl))⟩
  · obtain ⟨a, b, c, d⟩ := key hi.1 lo.1 hi.2 hi.2 B.h1 B.l1 B.h2 B.h2 rfl
    exact ⟨a, b, .inr (.inr (.inr (d rfl)))⟩
  · obtain ⟨a, b, c, d⟩ := key lo.1 lo.1 hi.2 lo.2 B.l1 B.l1 B.h2 B.l2 rfl
    exact ⟨a, b, .inl (c rfl)⟩
/-- The sum of the angles is told and not great. -/
theorem turn_bd {F : List C2} {lo hi : C2} {st : Nat} (h60 : st ≤ 60) (hq : ∀ i, i < 4 * st → fC (bqt F lo hi st i) ∧ A (cv (bqt F lo hi st i)).re < p2 1023 ∧ A (cv (bqt F lo hi st i)).im < p2 1023) (i : Nat) (hi' : i ≤ 4 * st) :
    fN .f32 (turnS F lo hi st i) = true ∧ A (vN .f32 (turnS F lo hi st i)) ≤ (i : Rat) * (51 / 100) := by
  induction i with
  | zero => show fN .f32 0 = true ∧ A (vN .f32 0) ≤ ((0 : Nat) : Rat) * (51 / 100); decide +kernel
  | succ i ih =>
    obtain ⟨s1, s2⟩ := ih (by omega)
    obtain ⟨c1, c2, c3⟩ := hq i (by omega)
    obtain ⟨a1, a2⟩ := angF_ok c1.2 c1.1 c3 c2
    show fN .f32 (fop .add .f32 (turnS F lo hi st i) (angF (bqt F lo hi st i).2 (bqt F lo hi st i).1)) = true ∧ A (vN .f32 (fop .add .f32 (turnS F lo hi st i) (angF (bqt F lo hi st i).2 (bqt F lo hi st i).1))) ≤ _
    generalize angF (bqt F lo hi st i).2 (bqt F lo hi st i).1 = a at *
    generalize turnS F lo hi st i = s at *
    have i0 : (i : Rat) ≤ ((240 : Nat) : Rat) := by exact_mod_cast (by omega : i ≤ 240)
    have c240 : ((240 : Nat) : Rat) = 240 := rfl
    have q0 := abs_a s2 a2
    have q1 : A (vN .f32 s + vN .f32 a) ≤ 124 := by grind
    have R := near1_res (fop_add_res s1 a1 (lt_of_p2 (a := 10) (Rat.le_trans q1 (by decide +kernel)) (by decide)))
    have k : u1 * 124 + p2 (-149) ≤ 1 / 100000 := by decide +kernel
    have e : A (vN .f32 (fop .add .f32 s a) - (vN .f32 s + vN .f32 a)) ≤ 1 / 100000 := by
      have m := Rat.mul_le_mul_of_nonneg_left q1 (Rat.le_of_lt u1_pos)
      exact Rat.le_trans R.2 (Rat.le_trans (by generalize u1 = u at *; generalize p2 (-149) = w at *; clear k; grind) k)
    have t := abs_a e q0
    rw [show vN .f32 (fop .add .f32 s a) - (vN .f32 s + vN .f32 a) + (vN .f32 s + vN .f32 a) = vN .f32 (fop .add .f32 s a) by grind] at t
    refine ⟨R.1, ?_⟩
    rw [Rat.natCast_add, show ((1 : Nat) : Rat) = 1 from rfl]
    grind
theorem bd130 {i st : Nat} {x : Rat} (h60 : st ≤ 60) (hi : i ≤ 4 * st) (h : x ≤ (i : Rat) * (51 / 100)) : x ≤ 130 := by
  have i0 : (i : Rat) ≤ ((240 : Nat) : Rat) := by exact_mod_cast (by omega : i ≤ 240)
  have c240 : ((240 : Nat) : Rat) = 240 := rfl
  grind
theorem boxOk_of {F : List C2} {lo hi : C2} {st : Nat} (hv : validF F = true) (hr : rootedF F = true) (hb : boxF lo hi = true) (s4 : 4 ≤ st) (s60 : st ≤ 60) (hf : bpt lo hi st 0 0 = lo) (hp : ∀ s k, s < 4 → k < st → ValOk F (bpt lo hi st s k)) : BoxOk F lo hi st := by
  have at_ : ∀ i, ∃ z, ValOk F z ∧ bvs F lo hi st i = nestedF F z := by
    intro i
    unfold bvs bval
    split
    · rename_i hi
      exact ⟨_, hp (i / st) (i % st) (Nat.div_lt_of_lt_mul (by rw [Nat.mul_comm]; exact hi)) (Nat.mod_lt _ (by omega)), rfl⟩
    · exact ⟨_, hp (0 / st) (0 % st) (by rw [Nat.zero_div]; decide) (Nat.mod_lt _ (by omega)), rfl⟩
  have hq : ∀ i, quoFit (bvs F lo hi st (i + 1)) (bvs F lo hi st i) ∧ fC (bqt F lo hi st i) ∧ A (cv (bqt F lo hi st i)).re < p2 1023 ∧ A (cv (bqt F lo hi st i)).im < p2 1023 := by
    intro i
    obtain ⟨z, h1, e1⟩ := at_ i
    obtain ⟨z', h2, e2⟩ := at_ (i + 1)
    unfold bqt
    rw [e1, e2]
    exact valq h1 h2
  refine ⟨hv, hr, hb, s4, s60, hf, fun s k hs hk => ?_, fun i _ => hq i, fun i hi' => ?_⟩
  · have v := hp s k hs hk
    refine ⟨v.f, v.s, v.fv, ?_⟩
    cases hz : zeroC (nestedF F (bpt lo hi st s k))
    · rfl
    · obtain ⟨a, b⟩ := (zeroC_iff ((fC_iff _).1 v.fv)).1 hz
      have := v.lo
      have e : N (cv (nestedF F (bpt lo hi st s k))) = 0 := by
        show A (vN .f32 _) + A (vN .f32 _) = 0
        rw [a, b, A_zero]; grind
      rw [e] at this
      exact absurd this (by decide +kernel)
  · obtain ⟨a, b⟩ := turn_bd (F := F) (lo := lo) (hi := hi) s60 (fun i _ => (hq i).2) i hi'
    exact ⟨a, bd130 s60 hi' b⟩
/-- A vertical edge's place, a horizontal one's. -/
def OkX (x : Nat) : Prop := fN .f32 x = true ∧ A (vN .f32 x) ≤ 65 / 8 ∧ (∀ j, j < 4 → 0 ≤ dmn (vN .f32 x) j) ∧ ∀ n, n < 5 → lowB n ≤ prd (dmn (vN .f32 x)) n
def OkY (y : Nat) : Prop := fN .f32 y = true ∧ A (vN .f32 y) ≤ 65 / 8 ∧ 5 / 128 ≤ dmy (vN .f32 y)
section
variable {ls : List C2} {X : Nat → Int × Int}
theorem DX.pts (h : DX ls X) (h1 : 1 ≤ ls.length) (h4 : ls.length ≤ 4) {lo hi : C2} (a : OkX lo.1) (b : OkX hi.1) (c : OkY lo.2) (d : OkY hi.2) {st : Nat} (hst : st = 40 ∨ st = 60) (s k : Nat) (hs : s < 4) (hk : k < st) : ValOk (rootsL (ls.map nc) ls.length) (bpt lo hi st s k) := by
  obtain ⟨p1, p2', p3⟩ := pt_of (lo := lo) (hi := hi) ⟨⟨a.1, a.2.1⟩, ⟨c.1, c.2.1⟩, ⟨b.1, b.2.1⟩, ⟨d.1, d.2.1⟩⟩ hst hs hk
  refine h.edge h1 h4 p1 p2' ?_
  rcases p3 with e | e | e | e
  · exact h.edge_x h4 (by rw [e]; exact a.2.2.1) (by rw [e]; exact a.2.2.2 _ (by omega))
  · exact h.edge_x h4 (by rw [e]; exact b.2.2.1) (by rw [e]; exact b.2.2.2 _ (by omega))
  · exact h.edge_y h1 h4 (by rw [e]; exact c.2.2)
  · exact h.edge_y h1 h4 (by rw [e]; exact d.2.2)
theorem DX.boxOk (h : DX ls X) (h1 : 1 ≤ ls.length) (h4 : ls.length ≤ 4) {lo hi : C2} (a : OkX lo.1) (b : OkX hi.1) (c : OkY lo.2) (d : OkY hi.2) {st : Nat} (hst : st = 40 ∨ st = 60) (hb : boxF lo hi = true) (hf : bpt lo hi st 0 0 = lo) : BoxOk (rootsL (ls.map nc) ls.length) lo hi st := by
  obtain ⟨q1, q2, q3⟩ := h.poly h1 h4
  have hv : validF (rootsL (ls.map nc) ls.length) = true := by
    unfold rootedF at q3
    rw [Bool.and_eq_true] at q3
    exact q3.1
  exact boxOk_of hv q3 hb (by omega) (by omega) hf (fun s k hs hk => h.pts h1 h4 a b c d hst s k hs hk)
end
end Go.Proofs.Ytklonahkacikbaa

/- The boxes on the way from the great box, plainly: their corners are told, so all walks around them are safe. Conditions: up to four drawn roots. -/
namespace Go.Proofs.Ytklonahkacikbaa
open Go
set_option linter.unusedSimpArgs false
set_option linter.unusedVariables false

def xw (i : Nat) : Nat := [3238035456, 3233849344, 3229630464, 3221192704, 1015021568, 1073856512, 1082212352, 1086431232, 1090584576].getD i 0
def yw (i : Nat) : Nat := [3238019072, 3233812480, 3229564928, 3221012480, 1025507328, 1073963008, 1082269696, 1086492672, 1090617344].getD i 0
theorem xw_ok : ∀ i, i < 9 → OkX (xw i) := by unfold OkX; decide +kernel
theorem yw_ok : ∀ i, i < 9 → OkY (yw i) := by unfold OkY; decide +kernel
theorem mid_ok : ∀ t, t < 5 → ∀ i, i < 9 → ((t = 4 ∨ t = 2 ∨ t = 1) ∧ i % (2 * t) = 0 ∧ i + 2 * t ≤ 8) →
    fop .mul .f32 (fop .add .f32 (xw i) (xw (i + 2 * t))) (nrm .f32 1056964608) = xw (i + t) ∧ fop .mul .f32 (fop .add .f32 (yw i) (yw (i + 2 * t))) (nrm .f32 1056964608) = yw (i + t) := by decide +kernel
theorem box_okx : ∀ t, t < 9 → ∀ i, i < 9 → ((t = 8 ∨ t = 4 ∨ t = 2 ∨ t = 1) ∧ i + t ≤ 8) → fN .f32 (fop .sub .f32 (xw (i + t)) (xw i)) = true ∧ fcmp .gtr .f32 (fop .sub .f32 (xw (i + t)) (xw i)) (nrm .f32 0) = true := by decide +kernel
theorem box_oky : ∀ t, t < 9 → ∀ i, i < 9 → ((t = 8 ∨ t = 4 ∨ t = 2 ∨ t = 1) ∧ i + t ≤ 8) → fN .f32 (fop .sub .f32 (yw (i + t)) (yw i)) = true ∧ fcmp .gtr .f32 (fop .sub .f32 (yw (i + t)) (yw i)) (nrm .f32 0) = true := by decide +kernel
theorem box_first : ∀ t, t < 9 → ∀ i, i < 9 → ((t = 8 ∨ t = 4 ∨ t = 2 ∨ t = 1) ∧ i + t ≤ 8) → fop .add .f32 (xw i) (fop .mul .f32 (fop .sub .f32 (xw (i + t)) (xw i)) (fracF 0 60)) = xw i ∧ fop .add .f32 (yw i) (fop .mul .f32 (fop .sub .f32 (yw i) (yw i)) (fracF 0 60)) = yw i := by decide +kernel
theorem first40 : fop .add .f32 (xw 0) (fop .mul .f32 (fop .sub .f32 (xw 8) (xw 0)) (fracF 0 40)) = xw 0 ∧ fop .add .f32 (yw 0) (fop .mul .f32 (fop .sub .f32 (yw 0) (yw 0)) (fracF 0 40)) = yw 0 := by decide +kernel
def bx (i j t : Nat) : C2 × C2 := ((xw i, yw j), (xw (i + t), yw (j + t)))
structure BxV (i j t : Nat) : Prop where
  tv : t = 8 ∨ t = 4 ∨ t = 2 ∨ t = 1
  iv : i + t ≤ 8
  jv : j + t ≤ 8
  im : i % t = 0
  jm : j % t = 0
theorem BxV.fin {i j t : Nat} (h : BxV i j t) : fC (bx i j t).1 ∧ fC (bx i j t).2 := by
  have a := h.iv
  have b := h.jv
  exact ⟨⟨(xw_ok i (by omega)).1, (yw_ok j (by omega)).1⟩, ⟨(xw_ok (i + t) (by omega)).1, (yw_ok (j + t) (by omega)).1⟩⟩
theorem BxV.box {i j t : Nat} (h : BxV i j t) : boxF (bx i j t).1 (bx i j t).2 = true := by
  have a := h.iv
  have b := h.jv
  have ht := h.tv
  obtain ⟨f1, f2⟩ := h.fin
  obtain ⟨x1, x2⟩ := box_okx t (by omega) i (by omega) ⟨ht, a⟩
  obtain ⟨y1, y2⟩ := box_oky t (by omega) j (by omega) ⟨ht, b⟩
  unfold boxF
  rw [(fC_iff _).1 f1, (fC_iff _).1 f2, (fC_iff (subC (bx i j t).2 (bx i j t).1)).1 ⟨x1, y1⟩]
  simp only [Bool.true_and, Bool.and_eq_true]
  exact ⟨x2, y2⟩
theorem BxV.first {i j t : Nat} (h : BxV i j t) : bpt (bx i j t).1 (bx i j t).2 60 0 0 = (bx i j t).1 := by
  have a := h.iv
  have b := h.jv
  have ht := h.tv
  obtain ⟨x, _⟩ := box_first t (by omega) i (by omega) ⟨ht, a⟩
  obtain ⟨_, y⟩ := box_first t (by omega) j (by omega) ⟨ht, b⟩
  exact Prod.ext x y
/-- The quarters of a box on the way. -/
theorem BxV.q {i j t : Nat} (h : BxV i j (2 * t)) (q : Nat) (hq : q < 4) : ∃ i' j', BxV i' j' t ∧ qLo (bx i j (2 * t)).1 (bx i j (2 * t)).2 q = (bx i' j' t).1 ∧ qHi (bx i j (2 * t)).1 (bx i j (2 * t)).2 q = (bx i' j' t).2 := by
  have a := h.iv
  have b := h.jv
  have c := h.im
  have d := h.jm
  have ht : t = 4 ∨ t = 2 ∨ t = 1 := by have := h.tv; omega
  have ht8 : t = 8 ∨ t = 4 ∨ t = 2 ∨ t = 1 := by omega
  obtain ⟨mx, _⟩ := mid_ok t (by omega) i (by omega) ⟨ht, c, a⟩
  obtain ⟨_, my⟩ := mid_ok t (by omega) j (by omega) ⟨ht, d, b⟩
  have m : midF (bx i j (2 * t)).1 (bx i j (2 * t)).2 = (xw (i + t), yw (j + t)) := Prod.ext mx my
  have i2 : i + t + t = i + 2 * t := by omega
  have j2 : j + t + t = j + 2 * t := by omega
  have im : i % t = 0 := by rcases ht with rfl | rfl | rfl <;> omega
  have jm : j % t = 0 := by rcases ht with rfl | rfl | rfl <;> omega
  have im2 : (i + t) % t = 0 := by rcases ht with rfl | rfl | rfl <;> omega
  have jm2 : (j + t) % t = 0 := by rcases ht with rfl | rfl | rfl <;> omega
  rcases (by omega : q = 0 ∨ q = 1 ∨ q = 2 ∨ q = 3) with rfl | rfl | rfl | rfl
  · exact ⟨i, j, ⟨ht8, by omega, by omega, im, jm⟩, rfl, m⟩
  · refine ⟨i + t, j, ⟨ht8, by omega, by omega, im2, jm⟩, ?_, ?_⟩
    · show ((midF _ _).1, _) = _; rw [m]; rfl
    · show (_, (midF _ _).2) = _; rw [m]; unfold bx; rw [i2]
  · refine ⟨i, j + t, ⟨ht8, by omega, by omega, im, jm2⟩, ?_, ?_⟩
    · show (_, (midF _ _).2) = _; rw [m]; rfl
    · show ((midF _ _).1, _) = _; rw [m]; unfold bx; rw [j2]
  · refine ⟨i + t, j + t, ⟨ht8, by omega, by omega, im2, jm2⟩, ?_, ?_⟩
    · show midF _ _ = _; rw [m]; rfl
    · show (bx i j (2 * t)).2 = _; unfold bx; rw [i2, j2]
section
variable {ls : List C2} {X : Nat → Int × Int}
theorem DX.boxAt (h : DX ls X) (h1 : 1 ≤ ls.length) (h4 : ls.length ≤ 4) {i j t : Nat} (v : BxV i j t) : BoxOk (rootsL (ls.map nc) ls.length) (bx i j t).1 (bx i j t).2 60 := by
  have a := v.iv
  have b := v.jv
  exact h.boxOk h1 h4 (xw_ok i (by omega)) (xw_ok (i + t) (by omega)) (yw_ok j (by omega)) (yw_ok (j + t) (by omega)) (.inr rfl) v.box v.first
theorem DX.fourAt (h : DX ls X) (h1 : 1 ≤ ls.length) (h4 : ls.length ≤ 4) {i j t : Nat} (v : BxV i j (2 * t)) : FourOk (rootsL (ls.map nc) ls.length) (bx i j (2 * t)).1 (bx i j (2 * t)).2 60 := by
  obtain ⟨f1, f2⟩ := v.fin
  refine ⟨(h.poly h1 h4).2.2, v.box, by omega, by omega, nc_fin f1, nc_fin f2, fun q hq => ?_⟩
  obtain ⟨i', j', v', e1, e2⟩ := v.q q hq
  rw [e1, e2]
  exact h.boxAt h1 h4 v'
theorem bx_great : BxV 0 0 8 := ⟨.inl rfl, by decide, by decide, by decide, by decide⟩
theorem iter_bx (F : List C2) (d : Int) (k : Nat) (hk : k ≤ 3) : ∀ b, iterB F d 60 (bx 0 0 8) k = some b → ∃ i j, BxV i j (2 ^ (3 - k)) ∧ b = bx i j (2 ^ (3 - k)) := by
  induction k with
  | zero => intro b hb; cases hb; exact ⟨0, 0, bx_great, rfl⟩
  | succ k ih =>
    intro b hb
    have hb' : (iterB F d 60 (bx 0 0 8) k).bind (stepB F d 60) = some b := hb
    cases hc : iterB F d 60 (bx 0 0 8) k with
    | none => rw [hc] at hb'; cases hb'
    | some c =>
      rw [hc] at hb'
      obtain ⟨i, j, v, rfl⟩ := ih (by omega) c hc
      have hs := hb'
      rw [show ∀ (f : C2 × C2 → Option (C2 × C2)) x, (some x).bind f = f x from fun _ _ => rfl] at hs
      have et : 2 ^ (3 - k) = 2 * 2 ^ (3 - (k + 1)) := by rw [show 3 - k = 3 - (k + 1) + 1 by omega, Nat.pow_succ]; omega
      rw [et] at v hs
      unfold stepB at hs
      split at hs
      · rename_i hg
        have p4 := (pos_lt4 hg.2).1
        have hs' := Option.some.inj hs
        clear hs hg hb hb' hc ih
        generalize (posI (fourR d (TQ F (bx i j (2 * 2 ^ (3 - (k + 1)))).1 (bx i j (2 * 2 ^ (3 - (k + 1)))).2 60)).1).toNat = q at *
        obtain ⟨i', j', v', e1, e2⟩ := v.q q p4
        refine ⟨i', j', v', ?_⟩
        rw [← hs', e1, e2]
      · cases hs
/-- What narrowing needs. -/
theorem DX.narrow (h : DX ls X) (h1 : 1 ≤ ls.length) (h4 : ls.length ≤ 4) (d : Int) (k : Nat) (hk : k < 3) (b : C2 × C2) (hb : iterB (rootsL (ls.map nc) ls.length) d 60 (bx 0 0 8) k = some b) : FourOk (rootsL (ls.map nc) ls.length) b.1 b.2 60 := by
  obtain ⟨i, j, v, rfl⟩ := iter_bx _ d k (by omega) b hb
  have et : 2 ^ (3 - k) = 2 * 2 ^ (3 - (k + 1)) := by rw [show 3 - k = 3 - (k + 1) + 1 by omega, Nat.pow_succ]; omega
  rw [et] at v ⊢
  exact h.fourAt h1 h4 v
theorem DX.great (h : DX ls X) (h1 : 1 ≤ ls.length) (h4 : ls.length ≤ 4) : BoxOk (rootsL (ls.map nc) ls.length) (bx 0 0 8).1 (bx 0 0 8).2 40 :=
  h.boxOk h1 h4 (xw_ok 0 (by decide)) (xw_ok 8 (by decide)) (yw_ok 0 (by decide)) (yw_ok 8 (by decide)) (.inl rfl) bx_great.box (Prod.ext first40.1 first40.2)
end
end Go.Proofs.Ytklonahkacikbaa

/- The angle of a number near the positive reals is its tangent's short series, nearly. Conditions: the tangent is at most 28 / 100. -/
namespace Go.Proofs.Ytklonahkacikbaa
open Go Go.RowKit
set_option linter.unusedSimpArgs false
set_option linter.unusedVariables false

/-- Sums, differences, products of words and their errors. -/
theorem ve_add {x y : Nat} (hx : fN .f64 x = true) (hy : fN .f64 y = true) (h : A (vN .f64 x + vN .f64 y) ≤ 64) : A (vN .f64 (fop .add .f64 x y) - (vN .f64 x + vN .f64 y)) ≤ e0 := res_e0 (fop_add_res hx hy (l64 h)) h
theorem ve_sub {x y : Nat} (hx : fN .f64 x = true) (hy : fN .f64 y = true) (h : A (vN .f64 x - vN .f64 y) ≤ 64) : A (vN .f64 (fop .sub .f64 x y) - (vN .f64 x - vN .f64 y)) ≤ e0 := res_e0 (fop_sub_res hx hy (l64 h)) h
theorem ve_mul {x y : Nat} (hx : fN .f64 x = true) (hy : fN .f64 y = true) (h : A (vN .f64 x * vN .f64 y) ≤ 64) : A (vN .f64 (fop .mul .f64 x y) - vN .f64 x * vN .f64 y) ≤ e0 := res_e0 (fop_mul_res hx hy (l64 h)) h
theorem ve_quo {x y : Nat} {q : Rat} (hx : fN .f64 x = true) (hy : fN .f64 y = true) (h0 : vN .f64 y ≠ 0) (hq : q * vN .f64 y = vN .f64 x) (h : A q ≤ 64) : A (vN .f64 (fop .quo .f64 x y) - q) ≤ e0 := by
  obtain ⟨f1, f2⟩ := fop_quo_ok hx hy h0 hq (lt_of_p2 (a := 6) (Rat.le_trans h (by decide +kernel)) (by decide))
  have h2 := Rat.mul_le_mul_of_nonneg_left h (Rat.le_of_lt (p2_pos (-52)))
  have h3 : p2 (-52) * 64 + p2 (-1075) ≤ e0 := by decide +kernel
  exact Rat.le_trans f2 (Rat.le_trans (by generalize p2 (-52) = u at *; generalize p2 (-1075) = v at *; clear h3; grind) h3)
theorem iv_A {x : Nat} {b : Rat} (h : Iv x 0 b) : A (vN .f64 x) ≤ b := by rw [A_of_nonneg h.2.1]; exact h.2.2
theorem e0_small : 0 < e0 ∧ e0 ≤ 1 / 1000000000000 := by decide +kernel
/-- The half's tangent. -/
theorem half_rat {t m s x S d q r e : Rat} (e0 : 0 < e) (e1 : e ≤ 1 / 1000000000000) (t0 : 0 ≤ t) (t1 : t ≤ 3 / 10) (hm : A (m - t * t) ≤ e) (hs : A (s - (1 + m)) ≤ e) (x0 : 0 ≤ x) (hx : A (x * x - s) ≤ e) (hS : A (S - x) ≤ e) (hd : A (d - (1 + S)) ≤ e) (hq : q * d = t) (hr : A (r - q) ≤ e) :
    A (t * (1 - r * r) - (r + r)) ≤ 5 * e := by
  have tt : A (t * t) ≤ 9 / 100 := Rat.le_trans (abs_m (X := 3 / 10) (Y := 3 / 10) (by rw [A_of_nonneg t0]; exact t1) (by rw [A_of_nonneg t0]; exact t1)) (by decide +kernel)
  have tt0 : 0 ≤ t * t := Rat.mul_nonneg t0 t0
  have b1 := le_A (m - t * t)
  have b2 := le_A (s - (1 + m))
  have b3 := le_A (x * x - s)
  have b4 := le_A (S - x)
  have b5 := le_A (d - (1 + S))
  have b6 := le_A (t * t)
  have xx : x * x ≤ 11 / 10 * (11 / 10) := by grind
  have x1 : x ≤ 11 / 10 := sq_le_sq (by decide +kernel) xx
  have xg : 9 / 10 * (9 / 10) ≤ x * x := by grind
  have x2 : 9 / 10 ≤ x := sq_le_sq x0 xg
  have hD : A (d - 1 - x) ≤ 2 * e := by
    have := abs_a hd hS
    rw [show d - (1 + S) + (S - x) = d - 1 - x by grind] at this
    grind
  have bD := le_A (d - 1 - x)
  have hDD : A ((d - 1) * (d - 1) - x * x) ≤ 5 * e := by
    rw [show (d - 1) * (d - 1) - x * x = (d - 1 - x) * (d - 1 - x + (x + x)) by grind]
    have h2 : A (d - 1 - x + (x + x)) ≤ 9 / 4 := by
      have : A (x + x) ≤ 11 / 5 := by rw [A_of_nonneg (by grind)]; grind
      have := abs_a hD this
      grind
    have := abs_m hD h2
    grind
  have hall : A ((d - 1) * (d - 1) - 1 - t * t) ≤ 8 * e := by
    have := abs_a (abs_a (abs_a hDD hx) hs) hm
    rw [show (d - 1) * (d - 1) - x * x + (x * x - s) + (s - (1 + m)) + (m - t * t) = (d - 1) * (d - 1) - 1 - t * t by grind] at this
    grind
  have d1 : 18 / 10 ≤ d := by grind
  have d2 : 18 / 10 * (18 / 10) ≤ d * d := mul_le d1 d1 (by decide +kernel) (by grind)
  have key : (t * (1 - q * q) - (q + q)) * (d * d) = t * ((d - 1) * (d - 1) - 1 - t * t) := by
    have : (t * (1 - q * q) - (q + q)) * (d * d) = t * (d * d) - t * ((q * d) * (q * d)) - 2 * ((q * d) * d) := by grind
    rw [this, hq]; grind
  have h3 : A (t * (1 - q * q) - (q + q)) ≤ e := by
    have k1 : A (t * (1 - q * q) - (q + q)) * A (d * d) ≤ 3 / 10 * (8 * e) := by
      rw [← A_mul, key]
      exact abs_m (by rw [A_of_nonneg t0]; exact t1) hall
    rw [A_of_nonneg (show 0 ≤ d * d by grind)] at k1
    have k2 := Rat.mul_le_mul_of_nonneg_left d2 (A_nonneg (t * (1 - q * q) - (q + q)))
    grind
  have q0 : 0 ≤ q := lcancel_le (show 0 < d by grind) (by rw [hq]; grind)
  have q1 : q ≤ 1 / 5 := lcancel_le (show 0 < d by grind) (by rw [hq]; grind)
  have hdf : A (t * (1 - r * r) - (r + r) - (t * (1 - q * q) - (q + q))) ≤ 4 * e := by
    rw [show t * (1 - r * r) - (r + r) - (t * (1 - q * q) - (q + q)) = (r - q) * (-(t * (r - q + (q + q))) - 2) by grind]
    have qq : A (q + q) ≤ 2 / 5 := by rw [A_of_nonneg (by grind)]; grind
    have a1 := abs_a hr qq
    have a2 : A (t * (r - q + (q + q))) ≤ 3 / 10 * (1 / 2) := abs_m (by rw [A_of_nonneg t0]; exact t1) (by grind)
    have a3 : A (-(t * (r - q + (q + q))) - 2) ≤ 4 := by
      have := abs_s (show A (-(t * (r - q + (q + q)))) ≤ _ by rw [A_neg]; exact a2) (show A 2 ≤ 2 by decide +kernel)
      exact Rat.le_trans this (by decide +kernel)
    have := abs_m hr a3
    grind
  have := abs_a hdf h3
  rw [show t * (1 - r * r) - (r + r) - (t * (1 - q * q) - (q + q)) + (t * (1 - q * q) - (q + q)) = t * (1 - r * r) - (r + r) by grind] at this
  grind
theorem tS_half {w : Nat} (h : Iv w 0 (3 / 10)) : A (vN .f64 w * (1 - vN .f64 (tS w) * vN .f64 (tS w)) - (vN .f64 (tS w) + vN .f64 (tS w))) ≤ 5 * e0 := by
  have ft := h.1
  have hA := iv_A h
  have c1 := c1_iv
  have v1 : vN .f64 (nrm .f64 4607182418800017408) = 1 := by decide +kernel
  have a1 : Iv (fop .mul .f64 w w) 0 (1 / 10) := iv_mul h h (by decide) (by decide) (by decide +kernel) (.inr rfl) (by decide +kernel)
  have r1 := ve_mul ft ft (Rat.le_trans (abs_m hA hA) (by decide +kernel))
  have a2 : Iv (fop .add .f64 (nrm .f64 4607182418800017408) (fop .mul .f64 w w)) (99 / 100) (111 / 100) := iv_add c1 a1 (by decide +kernel) (by decide +kernel) (by decide +kernel) (by decide +kernel)
  have r2 := ve_add c1.1 a1.1 (by rw [v1]; exact Rat.le_trans (abs_a (show A 1 ≤ 1 by decide +kernel) (iv_A a1)) (by decide +kernel))
  rw [v1] at r2
  unfold tS
  generalize hs : fop .add .f64 (nrm .f64 4607182418800017408) (fop .mul .f64 w w) = s at *
  obtain ⟨fS, _, x, x0, x1, x2, x3⟩ := sq_val a2.1 (Rat.le_trans (by decide +kernel) a2.2.1) (Rat.le_trans a2.2.2 (by decide +kernel))
  have e' := e0_small
  have x2' : A (x * x - vN .f64 s) ≤ e0 := by
    have := Rat.mul_le_mul_of_nonneg_left a2.2.2 (Rat.le_of_lt (p2_pos (-50)))
    exact Rat.le_trans x2 (Rat.le_trans this (by decide +kernel))
  have xs : x ≤ 2 := by
    have b := le_A (x * x - vN .f64 s)
    have := a2.2.2
    exact sq_le_sq (by decide +kernel) (by grind)
  have x3' : A (vN .f64 (sqF s) - x) ≤ e0 := by
    have := Rat.mul_le_mul_of_nonneg_left xs (Rat.le_of_lt (p2_pos (-53)))
    refine Rat.le_trans x3 (Rat.le_trans ?_ (show p2 (-53) * 2 + p2 (-1075) ≤ e0 by decide +kernel))
    generalize p2 (-53) = u at *; generalize p2 (-1075) = v at *; grind
  have xa : A x ≤ 2 := by rw [A_of_nonneg x0]; exact xs
  have Sa : A (vN .f64 (sqF s)) ≤ 3 := by
    have := abs_a x3' xa
    rw [show vN .f64 (sqF s) - x + x = vN .f64 (sqF s) by grind] at this
    grind
  have xl : 0 ≤ vN .f64 (sqF s) + e0 := by
    have := le_A (vN .f64 (sqF s) - x)
    grind
  have r3 := ve_add c1.1 fS (by rw [v1]; exact Rat.le_trans (abs_a (show A 1 ≤ 1 by decide +kernel) Sa) (by decide +kernel))
  rw [v1] at r3
  have fd : fN .f64 (fop .add .f64 (nrm .f64 4607182418800017408) (sqF s)) = true := (fop_add_res c1.1 fS (l64 (by rw [v1]; exact Rat.le_trans (abs_a (show A 1 ≤ 1 by decide +kernel) Sa) (by decide +kernel)))).1
  have dl := le_A (vN .f64 (fop .add .f64 (nrm .f64 4607182418800017408) (sqF s)) - (1 + vN .f64 (sqF s)))
  generalize hd : fop .add .f64 (nrm .f64 4607182418800017408) (sqF s) = d at *
  have d0 : (1 : Rat) / 2 < vN .f64 d := by grind
  have dn : vN .f64 d ≠ 0 := by grind
  obtain ⟨q, hq⟩ : ∃ q : Rat, q * vN .f64 d = vN .f64 w := ⟨vN .f64 w * (vN .f64 d)⁻¹, by rw [Rat.mul_assoc, Rat.inv_mul_cancel _ dn, Rat.mul_one]⟩
  have hqa : A q ≤ 64 := by
    have : A q * A (vN .f64 d) = A (vN .f64 w) := by rw [← A_mul, hq]
    rw [A_of_nonneg (show 0 ≤ vN .f64 d by grind)] at this
    have := Rat.mul_le_mul_of_nonneg_left (Rat.le_of_lt d0) (A_nonneg q)
    grind
  have r4 := ve_quo ft fd dn hq hqa
  exact half_rat e'.1 e'.2 h.2.1 h.2.2 r1 r2 x0 x2' x3' r3 hq r4
/-- One halving of the angle. -/
theorem t5_half {t r e C Q : Rat} (h : A (t * (1 - r * r) - (r + r)) ≤ e) (hr : A r ≤ 1 / 5) (ht : A t ≤ C) (hQ : r * r ≤ Q) (hC : C ≤ 3 / 10) (he : e ≤ 1 / 100000) : A (2 * T5 r - T5 t) ≤ ErrT (C + 2 * e) Q + 4 * e := by
  have rr := abs_m hr hr
  have rr1 := le_A (r * r)
  have e0 : 0 ≤ e := Rat.le_trans (A_nonneg _) h
  obtain ⟨c, hc⟩ := tan_ex (s := r) (t := r) (by grind)
  have hct : A (c - t) ≤ 2 * e := by
    have k : (c - t) * (1 - r * r) = -(t * (1 - r * r) - (r + r)) := by grind
    have k2 : A (c - t) * A (1 - r * r) ≤ e := by rw [← A_mul, k, A_neg]; exact h
    have k3 : (1 : Rat) / 2 ≤ A (1 - r * r) := by have := le_A (1 - r * r); grind
    have := Rat.mul_le_mul_of_nonneg_left k3 (A_nonneg (c - t))
    grind
  have hca : A c ≤ C + 2 * e := by
    have := abs_a hct ht
    rw [show c - t + t = c by grind] at this
    grind
  have hrr : A (r * r) ≤ Q := by
    have : 0 ≤ r * r := by rw [sq_A]; exact Rat.mul_nonneg (A_nonneg r) (A_nonneg r)
    rw [A_of_nonneg this]; exact hQ
  have s := t5_sum hc rfl hca hrr
  have l := t5_lip (s := c) (t := t) (by grind) (by grind) hct
  have := abs_a s l
  rw [show T5 r + T5 r - T5 c + (T5 c - T5 t) = 2 * T5 r - T5 t by grind] at this
  grind
end Go.Proofs.Ytklonahkacikbaa
