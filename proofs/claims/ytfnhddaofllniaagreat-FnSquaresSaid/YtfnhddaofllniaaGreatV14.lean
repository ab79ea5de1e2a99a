/- Lengths and comparisons on values. Conditions: numbers that are not too great. -/
import Derived.Test.YtfnhddaofllniaaGreatV13
namespace Go.Proofs.YtfnhddaofllniaaGreat
open Go
set_option linter.unusedSimpArgs false
set_option linter.unusedVariables false

theorem cmp_ex {k : FloatKind} {x y : Nat} (hx : fN k x = true) (hy : fN k y = true) : ∃ (a b : Int), k.format.order x y = some (compare a b) ∧ (vN k x < vN k y ↔ a < b) ∧ (vN k x = vN k y ↔ a = b) := by
  obtain ⟨a, b, e, h1, h2, h3⟩ := order_num hx hy
  refine ⟨a, b, h3, ?_, ?_⟩
  · rw [h1, h2]
    constructor
    · intro h
      rcases Int.lt_or_le a b with hh | hh
      · exact hh
      · have h4 : (b : Rat) ≤ (a : Rat) := by exact_mod_cast hh
        have := Rat.mul_le_mul_of_nonneg_right h4 (Rat.le_of_lt (p2_pos e))
        grind
    · intro h
      exact Rat.mul_lt_mul_of_pos_right (by exact_mod_cast h) (p2_pos e)
  · rw [h1, h2]
    constructor
    · intro h
      have := rcancel (p2_pos e) h
      exact_mod_cast this
    · intro h; rw [h]
theorem cmp_lss {k : FloatKind} {x y : Nat} (hx : fN k x = true) (hy : fN k y = true) : fcmp .lss k x y = decide (vN k x < vN k y) := by
  obtain ⟨a, b, h1, h2, h3⟩ := cmp_ex hx hy
  unfold fcmp
  rw [h1]
  simp only [h2]
  rcases Int.lt_trichotomy a b with h | h | h
  · rw [Int.compare_eq_lt.2 h]; simp [h]
  · rw [Int.compare_eq_eq.2 h]; subst h; simp
  · rw [Int.compare_eq_gt.2 h]; simp; omega
theorem cmp_gtr {k : FloatKind} {x y : Nat} (hx : fN k x = true) (hy : fN k y = true) : fcmp .gtr k x y = decide (vN k y < vN k x) := by
  obtain ⟨a, b, h1, h2, h3⟩ := cmp_ex hx hy
  obtain ⟨a', b', h1', h2', _⟩ := cmp_ex hy hx
  have hab : vN k y < vN k x ↔ b < a := by
    constructor
    · intro h
      rcases Int.lt_trichotomy a b with g | g | g
      · have := h2.2 g; grind
      · have := h3.2 g; grind
      · exact g
    · intro g
      have n1 : ¬ vN k x < vN k y := fun h => by have := h2.1 h; omega
      have n2 : vN k x ≠ vN k y := fun h => by have := h3.1 h; omega
      grind
  unfold fcmp
  rw [h1]
  simp only [hab]
  rcases Int.lt_trichotomy a b with h | h | h
  · rw [Int.compare_eq_lt.2 h]; simp; omega
  · rw [Int.compare_eq_eq.2 h]; subst h; simp
  · rw [Int.compare_eq_gt.2 h]; simp [h]
theorem cmp_eql {k : FloatKind} {x y : Nat} (hx : fN k x = true) (hy : fN k y = true) : fcmp .eql k x y = decide (vN k x = vN k y) := by
  obtain ⟨a, b, h1, h2, h3⟩ := cmp_ex hx hy
  unfold fcmp
  rw [h1]
  simp only [h3]
  rcases Int.lt_trichotomy a b with h | h | h
  · rw [Int.compare_eq_lt.2 h]; simp; omega
  · rw [Int.compare_eq_eq.2 h]; subst h; simp
  · rw [Int.compare_eq_gt.2 h]; simp; omega
theorem cmp_geq {k : FloatKind} {x y : Nat} (hx : fN k x = true) (hy : fN k y = true) : fcmp .geq k x y = !fcmp .lss k x y := by
  obtain ⟨a, b, h1, h2, h3⟩ := cmp_ex hx hy
  unfold fcmp
  rw [h1]
  cases compare a b <;> rfl
theorem cmp_leq {k : FloatKind} {x y : Nat} (hx : fN k x = true) (hy : fN k y = true) : fcmp .leq k x y = !fcmp .gtr k x y := by
  obtain ⟨a, b, h1, h2, h3⟩ := cmp_ex hx hy
  unfold fcmp
  rw [h1]
  cases compare a b <;> rfl
theorem cmp_neq {k : FloatKind} {x y : Nat} (hx : fN k x = true) (hy : fN k y = true) : fcmp .neq k x y = !fcmp .eql k x y := by
  obtain ⟨a, b, h1, h2, h3⟩ := cmp_ex hx hy
  unfold fcmp
  rw [h1]
  cases compare a b <;> rfl

theorem powerF_pos {d : C2} (hd : fC d) (hn : N (cv d) ≤ p2 44) : Pos .f64 (powerF d) := by
  have a1 : A (vN .f32 d.1) ≤ N (cv d) := re_le_N (cv d)
  have a2 : A (vN .f32 d.2) ≤ N (cv d) := im_le_N (cv d)
  have m1 : p2 44 < p2 200 := lt_of_p2 (Rat.le_refl (a := p2 44)) (by decide)
  have m2 : p2 44 < p2 1023 := lt_of_p2 (Rat.le_refl (a := p2 44)) (by decide)
  obtain ⟨p1, q1⟩ := wd_ok hd.1 (by grind)
  obtain ⟨p2', q2⟩ := wd_ok hd.2 (by grind)
  have k1 : A (vN .f32 d.1 * vN .f32 d.1) ≤ p2 88 := by
    rw [A_mul]
    have := mul_le (Rat.le_trans a1 hn) (Rat.le_trans a1 hn) (A_nonneg _) (Rat.le_of_lt (p2_pos 44))
    rw [← p2_add] at this; exact this
  have k2 : A (vN .f32 d.2 * vN .f32 d.2) ≤ p2 88 := by
    rw [A_mul]
    have := mul_le (Rat.le_trans a2 hn) (Rat.le_trans a2 hn) (A_nonneg _) (Rat.le_of_lt (p2_pos 44))
    rw [← p2_add] at this; exact this
  have m3 : p2 88 < p2 1023 := lt_of_p2 (Rat.le_refl (a := p2 88)) (by decide)
  have P1 := mul_pos p1 (by rw [q1]; grind)
  have P2 := mul_pos p2' (by rw [q2]; grind)
  obtain ⟨_, e1'⟩ := prod_exact hd.1 hd.1 (by grind) (by grind)
  obtain ⟨_, e2'⟩ := prod_exact hd.2 hd.2 (by grind) (by grind)
  have m4 : p2 88 + p2 88 = p2 89 := p2_two 88
  have m5 : p2 89 < p2 1023 := lt_of_p2 (Rat.le_refl (a := p2 89)) (by decide)
  exact add_pos P1 P2 (by rw [e1', e2']; have := A_add (vN .f32 d.1 * vN .f32 d.1) (vN .f32 d.2 * vN .f32 d.2); grind)
theorem nw_le {y : Nat} {b : Rat} (h : fN .f64 y = true) (h0 : 0 ≤ vN .f64 y) (ha : p2 (-60) ≤ b) (hb : b ≤ p2 60) (h2 : vN .f64 y ≤ b) : fit1 y ∧ fN .f32 (nw y) = true ∧ vN .f32 (nw y) ≤ b * (1 + p2 (-23)) := by
  obtain ⟨f1, R⟩ := nw_ok h (by rw [A_of_nonneg h0]; exact lt_of_p2 (Rat.le_trans h2 hb) (by decide))
  have e : A (vN .f32 (nw y) - vN .f64 y) ≤ p2 (-24) * vN .f64 y + p2 (-150) := by
    have := R.2.1; rw [A_of_nonneg h0] at this; exact this
  have a1 := le_A (vN .f32 (nw y) - vN .f64 y)
  have a2 : p2 (-150) ≤ p2 (-24) * p2 (-60) := by rw [← p2_add]; exact p2_mono (by decide)
  have a3 := Rat.mul_le_mul_of_nonneg_left ha (Rat.le_of_lt (p2_pos (-24)))
  have a4 : p2 (-24) + p2 (-24) = p2 (-23) := p2_two (-24)
  have a5 := Rat.mul_le_mul_of_nonneg_left h2 (Rat.le_of_lt (p2_pos (-24)))
  rw [← a4]
  refine ⟨f1, R.1, ?_⟩
  generalize p2 (-24) = u at *
  generalize p2 (-150) = v at *
  generalize p2 (-60) = w at *
  clear R a4 h
  grind
theorem p44 {B : Rat} (hB : B ≤ p2 40) : B ≤ p2 44 := Rat.le_trans hB (p2_mono (by decide))
/-- A length is at most the norm, nearly. -/
theorem longF_le2 {d : C2} {B : Rat} (hd : fC d) (hn40 : N (cv d) ≤ p2 40) (s2 : sqN (cv d) ≤ B * B) (h1 : p2 (-40) ≤ B) (h2 : B ≤ p2 40) : fit1 (sqF (powerF d)) ∧ fN .f32 (longF d) = true ∧ 0 ≤ vN .f32 (longF d) ∧ vN .f32 (longF d) ≤ B * (1 + p2 (-20)) := by
  have hp := powerF_pos hd (p44 hn40)
  have hl := longF_pos hd (p44 hn40)
  obtain ⟨w1, w2⟩ := powerF_ok hd (lt_of_p2 hn40 (by decide))
  have s0 := sqN_nonneg (cv d)
  have B0 : 0 < B := by have := p2_pos (-40); grind
  rw [A_of_nonneg s0] at w2
  have g := le_A (vN .f64 (powerF d) - sqN (cv d))
  have k1 : p2 (-53) * sqN (cv d) ≤ p2 (-53) * (B * B) := Rat.mul_le_mul_of_nonneg_left s2 (Rat.le_of_lt (p2_pos _))
  have k2 : p2 (-1075) ≤ p2 (-53) * (B * B) := by
    have a1 : p2 (-40) * p2 (-40) ≤ B * B := mul_le h1 h1 (Rat.le_of_lt (p2_pos _)) (Rat.le_of_lt B0)
    have a2 := Rat.mul_le_mul_of_nonneg_left a1 (Rat.le_of_lt (p2_pos (-53)))
    have a3 : p2 (-1075) ≤ p2 (-53) * (p2 (-40) * p2 (-40)) := by rw [← p2_add, ← p2_add]; exact p2_mono (by decide)
    grind
  have hB2 : B * B ≤ p2 80 := by
    have := mul_le h2 h2 (Rat.le_of_lt B0) (Rat.le_of_lt (p2_pos 40))
    rw [← p2_add] at this; exact this
  have hBB : 0 ≤ B * B := Rat.le_of_lt (Rat.mul_pos B0 B0)
  have k3 : vN .f64 (powerF d) ≤ (B * (1 + p2 (-45))) * (B * (1 + p2 (-45))) := by
    have e : (B * (1 + p2 (-45))) * (B * (1 + p2 (-45))) = B * B + (p2 (-45) + p2 (-45)) * (B * B) + p2 (-45) * p2 (-45) * (B * B) := by grind
    have a1 : p2 (-53) + p2 (-53) ≤ p2 (-45) + p2 (-45) := by decide +kernel
    have a2 := Rat.mul_le_mul_of_nonneg_right a1 hBB
    have a3 : 0 ≤ p2 (-45) * p2 (-45) * (B * B) := Rat.mul_nonneg (Rat.le_of_lt (Rat.mul_pos (p2_pos _) (p2_pos _))) hBB
    rw [e]
    generalize p2 (-45) = u at *
    generalize p2 (-53) = v at *
    generalize p2 (-1075) = t at *
    generalize B * B = bb at *
    clear e a1 h1 h2 hn40 B0 hB2
    grind
  have k4 : vN .f64 (powerF d) ≤ p2 90 := by
    have a1 : (p2 (-53) + p2 (-53)) * (B * B) ≤ 1 * (B * B) := Rat.mul_le_mul_of_nonneg_right (by decide +kernel) hBB
    have a2 : p2 80 + p2 80 ≤ p2 90 := by decide +kernel
    generalize p2 (-53) = v at *
    generalize p2 (-1075) = t at *
    generalize p2 90 = w at *
    generalize p2 80 = w' at *
    generalize B * B = bb at *
    clear h1 h2 hn40 B0 k3
    grind
  have c0 : p2 (-60) ≤ B * (1 + p2 (-45)) := by
    have a1 : p2 (-60) ≤ p2 (-40) := p2_mono (by decide)
    have a2 := Rat.mul_nonneg (Rat.le_of_lt B0) (Rat.le_of_lt (p2_pos (-45)))
    grind
  have k5 := sq_le hp.fN hp.nonneg k4 c0 k3
  obtain ⟨q1, q2, _⟩ := sq_val hp.fN hp.nonneg k4
  have q3 := (sqF_pos hp k4).1
  have c1 : p2 (-60) ≤ B * (1 + p2 (-45)) * (1 + p2 (-40)) := by
    have a2 := Rat.mul_nonneg (show 0 ≤ B * (1 + p2 (-45)) by have := p2_pos (-60); grind) (Rat.le_of_lt (p2_pos (-40)))
    grind
  have c2 : B * (1 + p2 (-45)) * (1 + p2 (-40)) ≤ p2 60 := by
    have a1 : (1 + p2 (-45)) * (1 + p2 (-40)) ≤ 2 := by decide +kernel
    have a2 := Rat.mul_le_mul_of_nonneg_left a1 (Rat.le_of_lt B0)
    have a3 : p2 40 * 2 ≤ p2 60 := by decide +kernel
    generalize p2 40 = w at *
    generalize p2 60 = w' at *
    grind
  obtain ⟨z1, z2, z3⟩ := nw_le q3.fN q3.nonneg c1 c2 k5
  refine ⟨z1, hl.fN, hl.nonneg, Rat.le_trans z3 ?_⟩
  have a1 : (1 + p2 (-45)) * (1 + p2 (-40)) * (1 + p2 (-23)) ≤ 1 + p2 (-20) := by decide +kernel
  have a2 := Rat.mul_le_mul_of_nonneg_left a1 (Rat.le_of_lt B0)
  grind
theorem longF_le {d : C2} {B : Rat} (hd : fC d) (hn : N (cv d) ≤ B) (h1 : p2 (-40) ≤ B) (h2 : B ≤ p2 40) : fit1 (sqF (powerF d)) ∧ fN .f32 (longF d) = true ∧ 0 ≤ vN .f32 (longF d) ∧ vN .f32 (longF d) ≤ B * (1 + p2 (-20)) :=
  longF_le2 hd (Rat.le_trans hn h2) (Rat.le_trans (sqN_le (cv d)) (mul_le hn hn (N_nonneg _) (by have := p2_pos (-40); grind))) h1 h2
/-- A length is at least a part, nearly. -/
theorem longF_ge {d : C2} {B c : Rat} (hd : fC d) (hn : N (cv d) ≤ B) (h2 : B ≤ p2 40) (hc : p2 (-40) ≤ c) (hs : c * c ≤ sqN (cv d)) : c * (1 - p2 (-20)) ≤ vN .f32 (longF d) := by
  have hp := powerF_pos hd (Rat.le_trans hn (p44 h2))
  obtain ⟨w1, w2⟩ := powerF_ok hd (lt_of_p2 (Rat.le_trans hn h2) (by decide))
  have s0 := sqN_nonneg (cv d)
  have s1 := sqN_le (cv d)
  have c0 : 0 < c := by have := p2_pos (-40); grind
  have hcc : 0 ≤ c * c := Rat.le_of_lt (Rat.mul_pos c0 c0)
  have s2 : sqN (cv d) ≤ p2 80 := by
    have := mul_le (Rat.le_trans hn h2) (Rat.le_trans hn h2) (N_nonneg _) (Rat.le_of_lt (p2_pos 40))
    rw [← p2_add] at this; exact Rat.le_trans s1 this
  rw [A_of_nonneg s0] at w2
  have g := le_A (vN .f64 (powerF d) - sqN (cv d))
  have v1 : p2 (-53) ≤ 1 := p2_small (by decide)
  have k0 := Rat.mul_le_mul_of_nonneg_right hs (show 0 ≤ 1 - p2 (-53) by grind)
  have k2 : p2 (-1075) ≤ p2 (-53) * (c * c) := by
    have a1 : p2 (-40) * p2 (-40) ≤ c * c := mul_le hc hc (Rat.le_of_lt (p2_pos _)) (Rat.le_of_lt c0)
    have a2 := Rat.mul_le_mul_of_nonneg_left a1 (Rat.le_of_lt (p2_pos (-53)))
    have a3 : p2 (-1075) ≤ p2 (-53) * (p2 (-40) * p2 (-40)) := by rw [← p2_add, ← p2_add]; exact p2_mono (by decide)
    grind
  have k3 : (c * (1 - p2 (-45))) * (c * (1 - p2 (-45))) ≤ vN .f64 (powerF d) := by
    have e : (c * (1 - p2 (-45))) * (c * (1 - p2 (-45))) = c * c - (p2 (-45) + p2 (-45) - p2 (-45) * p2 (-45)) * (c * c) := by grind
    have a1 : p2 (-53) + p2 (-53) ≤ p2 (-45) + p2 (-45) - p2 (-45) * p2 (-45) := by decide +kernel
    have a2 := Rat.mul_le_mul_of_nonneg_right a1 hcc
    rw [e]
    have a3 : c * c * (1 - p2 (-53)) = c * c - p2 (-53) * (c * c) := by grind
    have a4 : (p2 (-53) + p2 (-53)) * (c * c) = p2 (-53) * (c * c) + p2 (-53) * (c * c) := by grind
    rw [a3] at k0
    rw [a4] at a2
    generalize (p2 (-45) + p2 (-45) - p2 (-45) * p2 (-45)) * (c * c) = t1 at *
    generalize p2 (-53) * (c * c) = t2 at *
    generalize p2 (-53) = v at *
    generalize p2 (-1075) = t at *
    clear e a1 a3 a4 hc hs hn h2
    grind
  have k4 : vN .f64 (powerF d) ≤ p2 90 := by
    have a1 : p2 (-53) * sqN (cv d) ≤ 1 * sqN (cv d) := Rat.mul_le_mul_of_nonneg_right v1 s0
    have a2 : p2 80 + p2 80 + 1 ≤ p2 90 := by decide +kernel
    have a3 : p2 (-1075) ≤ 1 := p2_small (by decide)
    generalize p2 (-53) = v at *
    generalize p2 (-1075) = t at *
    generalize p2 90 = w at *
    generalize p2 80 = w' at *
    clear k0 k2 k3 hc
    grind
  have c1 : p2 (-60) ≤ c * (1 - p2 (-45)) := by
    have a1 : p2 (-60) ≤ p2 (-40) * (1 - p2 (-45)) := by decide +kernel
    have a2 := Rat.mul_le_mul_of_nonneg_right hc (show 0 ≤ 1 - p2 (-45) by decide +kernel)
    grind
  have k5 := sq_ge hp.fN hp.nonneg k4 c1 k3
  obtain ⟨q1, q2, x, x0, x1, _, x3⟩ := sq_val hp.fN hp.nonneg k4
  have q4 : vN .f64 (sqF (powerF d)) ≤ p2 60 := by
    have a1 := le_A (vN .f64 (sqF (powerF d)) - x)
    have a2 : p2 (-53) * x ≤ 1 * x := Rat.mul_le_mul_of_nonneg_right v1 x0
    have a3 : p2 46 + p2 46 + 1 ≤ p2 60 := by decide +kernel
    have a4 : p2 (-1075) ≤ 1 := p2_small (by decide)
    generalize p2 (-53) = v at *
    generalize p2 (-1075) = t at *
    generalize p2 46 = w at *
    generalize p2 60 = w' at *
    clear k0 k2 k3 k4 k5 hc c1
    grind
  have c2 : p2 (-60) ≤ c * (1 - p2 (-45)) * (1 - p2 (-40)) := by
    have a1 : p2 (-60) ≤ p2 (-40) * ((1 - p2 (-45)) * (1 - p2 (-40))) := by decide +kernel
    have a2 := Rat.mul_le_mul_of_nonneg_right hc (show 0 ≤ (1 - p2 (-45)) * (1 - p2 (-40)) by decide +kernel)
    grind
  obtain ⟨_, _, z3, _⟩ := nw_near q1 c2 (Rat.le_refl (a := p2 60)) k5 q4
  refine Rat.le_trans ?_ z3
  have a1 : 1 - p2 (-20) ≤ (1 - p2 (-45)) * (1 - p2 (-40)) * (1 - p2 (-23)) := by decide +kernel
  have a2 := Rat.mul_le_mul_of_nonneg_left a1 (Rat.le_of_lt c0)
  grind
/-- What is below 1 / 100, is not told to be above it. -/
theorem below_cent2 {d : C2} (hd : fC d) (hn : N (cv d) ≤ p2 40) (hs : sqN (cv d) ≤ 19 / 2000 * (19 / 2000)) : fit1 (sqF (powerF d)) ∧ fcmp .gtr .f64 (wd (longF d)) 4576918229304087675 = false := by
  obtain ⟨a, b, c, e⟩ := longF_le2 hd hn hs (by decide +kernel) (by decide +kernel)
  refine ⟨a, ?_⟩
  obtain ⟨w1, w2⟩ := wd_ok b (by rw [A_of_nonneg c]; exact lt_of_p2 (a := 1) (Rat.le_trans e (by decide +kernel)) (by decide))
  have hf : fN .f64 4576918229304087675 = true := by decide +kernel
  rw [cmp_gtr w1 hf, w2]
  simp only [decide_eq_false_iff_not]
  have hv : 19 / 2000 * (1 + p2 (-20)) ≤ vN .f64 4576918229304087675 := by decide +kernel
  grind
theorem below_cent {d : C2} (hd : fC d) (hn : N (cv d) ≤ 19 / 2000) : fit1 (sqF (powerF d)) ∧ fcmp .gtr .f64 (wd (longF d)) 4576918229304087675 = false :=
  below_cent2 hd (Rat.le_trans hn (by decide +kernel)) (Rat.le_trans (sqN_le (cv d)) (mul_le hn hn (N_nonneg _) (by decide +kernel)))
/-- The digits of a number, normal. -/
theorem digits2 {x : Nat} (h : fN .f64 x = true) : ∃ (s : Bool) (m : Nat) (e : Int), FloatKind.f64.decode x = .number s m e ∧ m < 2 ^ 53 ∧ -1074 ≤ e ∧ (-1074 < e → 2 ^ 52 ≤ m) := by
  obtain ⟨s, m, e, hd⟩ := isNum_ex h
  refine ⟨s, m, e, hd, ?_⟩
  have e2 : Ieee.double.binade = 2 ^ 52 := double_facts.2.1
  have e3 : Ieee.double.leastPlace = -1074 := double_facts.2.2.2.1
  have hd' : Ieee.double.read x = .number s m e := hd
  unfold Ieee.Format.read at hd'
  dsimp only at hd'
  have hml := Nat.mod_lt (x % Ieee.double.signWeight) (show 0 < Ieee.double.binade by rw [e2]; decide)
  split at hd'
  · rename_i h1
    cases hd'
    rw [e2] at h1
    rw [e3]
    exact ⟨by omega, by omega, by omega⟩
  · split at hd'
    · cases hd'
      rw [e2, e3] at *
      exact ⟨by omega, by omega, by omega⟩
    · split at hd' <;> cases hd'
/-- Two numbers of one value that are not below 0 are the same. -/
theorem Pos.same {x y : Nat} (hx : Pos .f64 x) (hy : Pos .f64 y) (h : vN .f64 x = vN .f64 y) : FloatKind.f64.decode x = FloatKind.f64.decode y := by
  obtain ⟨s, m, e, h1, h2, h3, h4⟩ := digits2 hx.fN
  obtain ⟨t, n, j, g1, g2, g3, g4⟩ := digits2 hy.fN
  obtain ⟨M, P, a⟩ := hx
  obtain ⟨M', P', b⟩ := hy
  rw [a] at h1
  rw [b] at g1
  cases h1
  cases g1
  unfold vN at h
  rw [a, b] at h ⊢
  have h' : (m : Rat) * p2 e = (n : Rat) * p2 j := h
  rcases Int.lt_trichotomy e j with he | he | he
  · exfalso
    have k1 : p2 j = ((2 ^ (j - e).toNat : Nat) : Rat) * p2 e := by rw [← p2_toNat (by omega), ← p2_add]; congr 1; omega
    have k2 : (m : Rat) * p2 e = ((n * 2 ^ (j - e).toNat : Nat) : Rat) * p2 e := by rw [h', k1, Rat.natCast_mul]; grind
    have k3 : m = n * 2 ^ (j - e).toNat := by exact_mod_cast rcancel (p2_pos e) k2
    have k4 : 2 ^ 1 ≤ 2 ^ (j - e).toNat := Nat.pow_le_pow_right (by decide) (by omega)
    have k5 := Nat.mul_le_mul (g4 (by omega)) k4
    omega
  · subst he
    have : m = n := by exact_mod_cast rcancel (p2_pos e) h'
    rw [this]
  · exfalso
    have k1 : p2 e = ((2 ^ (e - j).toNat : Nat) : Rat) * p2 j := by rw [← p2_toNat (by omega), ← p2_add]; congr 1; omega
    have k2 : (n : Rat) * p2 j = ((m * 2 ^ (e - j).toNat : Nat) : Rat) * p2 j := by rw [← h', k1, Rat.natCast_mul]; grind
    have k3 : n = m * 2 ^ (e - j).toNat := by exact_mod_cast rcancel (p2_pos j) k2
    have k4 : 2 ^ 1 ≤ 2 ^ (e - j).toNat := Nat.pow_le_pow_right (by decide) (by omega)
    have k5 := Nat.mul_le_mul (h4 (by omega)) k4
    omega
theorem fadd_congr {a b a' b' : Nat} (h1 : FloatKind.f64.decode a = FloatKind.f64.decode a') (h2 : FloatKind.f64.decode b = FloatKind.f64.decode b') : fop .add .f64 a b = fop .add .f64 a' b' := by
  unfold fop floatBits Ieee.Format.add
  dsimp only
  rw [show FloatKind.f64.format.read a = FloatKind.f64.format.read a' from h1, show FloatKind.f64.format.read b = FloatKind.f64.format.read b' from h2]
/-- A length hangs on the value alone. -/
theorem long_congr {d d' : C2} (hd : fC d) (hd' : fC d') (h : cv d = cv d') (hn : N (cv d) ≤ p2 44) : longF d = longF d' := by
  have part : ∀ {x y : Nat}, fN .f32 x = true → fN .f32 y = true → vN .f32 x = vN .f32 y → A (vN .f32 x) ≤ p2 44 → FloatKind.f64.decode (fop .mul .f64 (wd x) (wd x)) = FloatKind.f64.decode (fop .mul .f64 (wd y) (wd y)) := by
    intro x y hx hy hxy ha
    have m1 : A (vN .f32 x) < p2 200 := lt_of_p2 ha (by decide)
    have m2 : A (vN .f32 x) < p2 1023 := lt_of_p2 ha (by decide)
    obtain ⟨x1, x2⟩ := wd_ok hx m2
    obtain ⟨y1, y2⟩ := wd_ok hy (by rw [← hxy]; exact m2)
    obtain ⟨_, a1⟩ := prod_exact hx hx m1 m1
    obtain ⟨_, a2⟩ := prod_exact hy hy (by rw [← hxy]; exact m1) (by rw [← hxy]; exact m1)
    have m3 : A (vN .f32 x * vN .f32 x) < p2 1023 := by
      rw [A_mul]
      have := mul_le ha ha (A_nonneg _) (Rat.le_of_lt (p2_pos 44))
      rw [← p2_add] at this
      exact lt_of_p2 this (by decide)
    exact Pos.same (mul_pos x1 (by rw [x2]; exact m3)) (mul_pos y1 (by rw [y2, ← hxy]; exact m3)) (by rw [a1, a2, hxy])
  have a1 : A (vN .f32 d.1) ≤ N (cv d) := re_le_N (cv d)
  have a2 : A (vN .f32 d.2) ≤ N (cv d) := im_le_N (cv d)
  have e1' := part hd.1 hd'.1 (congrArg Q2.re h) (Rat.le_trans a1 hn)
  have e2' := part hd.2 hd'.2 (congrArg Q2.im h) (Rat.le_trans a2 hn)
  have : powerF d = powerF d' := fadd_congr e1' e2'
  unfold longF
  rw [this]
end Go.Proofs.YtfnhddaofllniaaGreat

/- Newton's and Halley's steps from beside a drawn root: they come near the root. Conditions: the three values are near those of a simple root. -/
namespace Go.Proofs.YtfnhddaofllniaaGreat
open Go
set_option linter.unusedSimpArgs false
set_option linter.unusedVariables false

theorem add_le {a b c d : Rat} (h1 : a ≤ b) (h2 : c ≤ d) : a + c ≤ b + d := by grind
theorem one_mul2 (x : Q2) : one2 * x = x := q2e (by simp; grind) (by simp; grind)
theorem mul_one2 (x : Q2) : x * one2 = x := q2e (by simp; grind) (by simp; grind)
theorem mul_assoc2 (x y z : Q2) : x * y * z = x * (y * z) := q2e (by simp; grind) (by simp; grind)
theorem mul_comm2 (x y : Q2) : x * y = y * x := q2e (by simp; grind) (by simp; grind)
theorem N_dlm (x : Q2) : N (dl * x) = 1 / 64 * N x := by
  have : dl * x = sc (1 / 64) x := q2e (by simp; grind) (by simp; grind)
  rw [this, N_scp (by decide +kernel)]
theorem dl_sc (x : Q2) : dl * sc 64 x = x := q2e (by simp; grind) (by simp; grind)
theorem N_one_add (x : Q2) : N (one2 + x) ≤ 1 + N x ∧ 1 - N x ≤ N (one2 + x) := by
  have a := N_add one2 x
  have b := N_sub (one2 + x) x
  rw [show one2 + x - x = one2 from q2e (by simp; grind) (by simp; grind)] at b
  rw [N_one2] at *
  constructor <;> grind
/-- A quotient by what is near 1. -/
theorem div_bound {x y w : Q2} (h : x * (one2 + y) = w) : N x * (1 - N y) ≤ N w := by
  have e : x = w - x * y := by rw [← h]; exact q2e (by simp; grind) (by simp; grind)
  have a : N x ≤ N w + N (x * y) := by
    conv => lhs; rw [e]
    exact N_sub _ _
  have b := N_mul x y
  grind
section
variable {n : Nat} {v s t K P m g h : Q2}
theorem NN.vp (H : NN n v s t K P m g h) : v = dl * (one2 + m) * P := by
  have e := H.v; have k := H.kp
  calc v = v * (K * P) := by rw [k, mul_one2]
    _ = (v * K) * P := (mul_assoc2 _ _ _).symm
    _ = _ := by rw [e]
theorem NN.sp (H : NN n v s t K P m g h) : s = (one2 + g) * P := by
  have e := H.s; have k := H.kp
  calc s = s * (K * P) := by rw [k, mul_one2]
    _ = (s * K) * P := (mul_assoc2 _ _ _).symm
    _ = _ := by rw [e]
theorem NN.tp (H : NN n v s t K P m g h) : t = sc 64 h * P := by
  have e := H.t; have k := H.kp
  calc t = t * (K * P) := by rw [k, mul_one2]
    _ = (t * K) * P := (mul_assoc2 _ _ _).symm
    _ = _ := by rw [e]
theorem NN.bounds (H : NN n v s t K P m g h) : N v ≤ 9 ∧ N s ≤ 560 ∧ N t ≤ 6300 ∧ 1 / 512 ≤ N v ∧ 1 / 8 ≤ N s ∧ N v * N K ≤ 1 / 7 ∧ N s * N K ≤ 9 ∧ N t * N K ≤ 99 := by
  have hp := H.p; have hpk := H.pk; have hm := H.m; have hg := H.ng; have hh := H.nh; have hk := H.k
  have pP := N_nonneg P; have pK := N_nonneg K; have pv := N_nonneg v; have ps := N_nonneg s
  have a1 : N v ≤ 1 / 64 * (217 / 200) * N P := by
    rw [H.vp]
    have x1 := N_mul (dl * (one2 + m)) P
    rw [N_dlm] at x1
    have x2 := (N_one_add m).1
    have x3 := Rat.mul_le_mul_of_nonneg_right (show 1 / 64 * N (one2 + m) ≤ 1 / 64 * (217 / 200) by grind) pP
    grind
  have a2 : N s ≤ 1093 / 1000 * N P := by
    rw [H.sp]
    have x1 := N_mul (one2 + g) P
    have x2 := (N_one_add g).1
    have x3 := Rat.mul_le_mul_of_nonneg_right (show N (one2 + g) ≤ 1093 / 1000 by grind) pP
    grind
  have a3 : N t ≤ 64 * (24 / 125) * N P := by
    rw [H.tp]
    have x1 := N_mul (sc 64 h) P
    rw [N_scp (by decide)] at x1
    have x3 := Rat.mul_le_mul_of_nonneg_right (show 64 * N h ≤ 64 * (24 / 125) by grind) pP
    grind
  have b1 : 1 / 64 * (183 / 200) ≤ N v * N K := by
    have x1 := N_mul v K
    rw [H.v, N_dlm] at x1
    have x2 := (N_one_add m).2
    grind
  have b2 : 907 / 1000 ≤ N s * N K := by
    have x1 := N_mul s K
    rw [H.s] at x1
    have x2 := (N_one_add g).2
    grind
  have c1 := Rat.mul_le_mul_of_nonneg_left hk pv
  have c2 := Rat.mul_le_mul_of_nonneg_left hk ps
  have d1 := Rat.mul_le_mul_of_nonneg_right a1 pK
  have d2 := Rat.mul_le_mul_of_nonneg_right a2 pK
  have d3 := Rat.mul_le_mul_of_nonneg_right a3 pK
  refine ⟨by grind, by grind, by grind, by grind, by grind, by grind, by grind, by grind⟩
theorem NN.newton (H : NN n v s t K P m g h) {q : Q2} (hq : q * s = v) : N (q - dl) ≤ 1 / 300 := by
  have e : (q - dl) * (one2 + g) = dl * (m - g) := by
    have h1 : q * (one2 + g) = dl * (one2 + m) := by rw [← H.s, ← H.v, ← hq, mul_assoc2]
    have h2 : (q - dl) * (one2 + g) = q * (one2 + g) - dl * (one2 + g) := q2e (by simp; grind) (by simp; grind)
    rw [h2, h1]
    exact q2e (by simp; grind) (by simp; grind)
  have b := div_bound e
  rw [N_dlm] at b
  have c := N_sub m g
  have hm := H.m; have hg := H.ng
  have d := N_nonneg (q - dl)
  have f := Rat.mul_le_mul_of_nonneg_left (show 907 / 1000 ≤ 1 - N g by grind) d
  grind
theorem NN.halley_y (H : NN n v s t K P m g h) {b : Q2} (hb : N b * (N K * N K) ≤ 1 / 1000) : ∃ y, N y ≤ 3 / 10 ∧ ((sc 2 (s * s) - v * t) + b) * (K * K) = sc 2 (one2 + y) := by
  have hm := H.m; have hg := H.ng; have hh := H.nh
  have eB : ((sc 2 (s * s) - v * t) + b) * (K * K) = sc 2 (one2 + (sc 2 g + g * g + sc (1 / 2) (b * (K * K) - (one2 + m) * h))) := by
    have e1 : ((sc 2 (s * s) - v * t) + b) * (K * K) = sc 2 ((s * K) * (s * K)) - (v * K) * (t * K) + b * (K * K) := q2e (by simp; grind) (by simp; grind)
    rw [e1, H.s, H.v, H.t]
    generalize b * (K * K) = y
    exact q2e (by simp; grind) (by simp; grind)
  have nb := Rat.le_trans (N_mul b (K * K)) (Rat.le_trans (Rat.mul_le_mul_of_nonneg_left (N_mul K K) (N_nonneg b)) hb)
  refine ⟨_, ?_, eB⟩
  clear eB
  generalize hbk : b * (K * K) = bk at *
  have m1h : N ((one2 + m) * h) ≤ 217 / 200 * (24 / 125) := Rat.le_trans (N_mul _ _) (mul_le (by have := (N_one_add m).1; grind) hh (N_nonneg _) (by decide +kernel))
  have x1 := N_add (sc 2 g + g * g) (sc (1 / 2) (bk - (one2 + m) * h))
  have x2 := N_add (sc 2 g) (g * g)
  have x3 := N_sub bk ((one2 + m) * h)
  have x4 := Rat.le_trans (N_mul g g) (mul_le hg hg (N_nonneg _) (by decide +kernel))
  have x5 := N_scp (show (0 : Rat) ≤ 2 by decide) g
  have x6 := N_scp (show (0 : Rat) ≤ 1 / 2 by decide +kernel) (bk - (one2 + m) * h)
  grind
theorem NN.halley_den (H : NN n v s t K P m g h) {b : Q2} (hb : N b * (N K * N K) ≤ 1 / 1000) : 1 / 40 ≤ N ((sc 2 (s * s) - v * t) + b) := by
  obtain ⟨y, ny, eB⟩ := H.halley_y hb
  have x1 := N_mul ((sc 2 (s * s) - v * t) + b) (K * K)
  rw [eB, N_scp (by decide)] at x1
  have x2 := (N_one_add y).2
  have x3 := N_mul K K
  have x4 := mul_le H.k H.k (N_nonneg K) (by decide)
  have x5 := Rat.mul_le_mul_of_nonneg_left (Rat.le_trans x3 x4) (N_nonneg ((sc 2 (s * s) - v * t) + b))
  grind
/-- Halley's quotient; a and b are what the computed parts are off. -/
theorem NN.halley (H : NN n v s t K P m g h) {q a b : Q2} (hq : q * ((sc 2 (s * s) - v * t) + b) = sc 2 (v * s) + a) (ha : N a * (N K * N K) ≤ 1 / 100000) (hb : N b * (N K * N K) ≤ 1 / 1000) : N (q - dl) ≤ 7 / 1000 := by
  have hm := H.m; have hg := H.ng; have hh := H.nh
  obtain ⟨y, ny, eB⟩ := H.halley_y hb
  have eA : (sc 2 (v * s) + a) * (K * K) = dl * sc 2 ((one2 + m) * (one2 + g)) + a * (K * K) := by
    have e1 : (sc 2 (v * s) + a) * (K * K) = sc 2 ((v * K) * (s * K)) + a * (K * K) := q2e (by simp; grind) (by simp; grind)
    rw [e1, H.s, H.v]
    generalize a * (K * K) = y
    exact q2e (by simp; grind) (by simp; grind)
  have nb := Rat.le_trans (N_mul b (K * K)) (Rat.le_trans (Rat.mul_le_mul_of_nonneg_left (N_mul K K) (N_nonneg b)) hb)
  have na := Rat.le_trans (N_mul a (K * K)) (Rat.le_trans (Rat.mul_le_mul_of_nonneg_left (N_mul K K) (N_nonneg a)) ha)
  generalize hbk : b * (K * K) = bk at *
  generalize hak : a * (K * K) = ak at *
  have m1h : N ((one2 + m) * h) ≤ 217 / 200 * (24 / 125) := Rat.le_trans (N_mul _ _) (mul_le (by have := (N_one_add m).1; grind) hh (N_nonneg _) (by decide +kernel))
  have e : sc 2 (q - dl) * (one2 + y) = dl * (sc 2 ((one2 + g) * (m - g)) + (one2 + m) * h) + (ak - dl * bk) := by
    have h1 : q * sc 2 (one2 + y) = dl * sc 2 ((one2 + m) * (one2 + g)) + ak := by rw [← eB, ← eA, ← hq, mul_assoc2]
    have h2 : dl * sc 2 (one2 + y) = dl * (sc 2 ((one2 + g) * (one2 + g)) - (one2 + m) * h) + dl * bk := by
      have e1 : ((sc 2 (s * s) - v * t) + b) * (K * K) = sc 2 ((s * K) * (s * K)) - (v * K) * (t * K) + b * (K * K) := q2e (by simp; grind) (by simp; grind)
      rw [← eB, e1, H.s, H.v, H.t, hbk]
      exact q2e (by simp; grind) (by simp; grind)
    have h3 : sc 2 (q - dl) * (one2 + y) = q * sc 2 (one2 + y) - dl * sc 2 (one2 + y) := q2e (by simp; grind) (by simp; grind)
    rw [h3, h1, h2]
    exact q2e (by simp; grind) (by simp; grind)
  have k := div_bound e
  rw [N_scp (by decide)] at k
  have x1 := N_add (dl * (sc 2 ((one2 + g) * (m - g)) + (one2 + m) * h)) (ak - dl * bk)
  rw [N_dlm] at x1
  have x2 := N_add (sc 2 ((one2 + g) * (m - g))) ((one2 + m) * h)
  rw [N_scp (by decide)] at x2
  have x3 := N_sub ak (dl * bk)
  rw [N_dlm] at x3
  have x4 := Rat.le_trans (N_mul (one2 + g) (m - g)) (mul_le (show N (one2 + g) ≤ 1093 / 1000 by have := (N_one_add g).1; grind) (show N (m - g) ≤ 178 / 1000 by have := N_sub m g; grind) (N_nonneg _) (by decide +kernel))
  have d := N_nonneg (q - dl)
  have f := Rat.mul_le_mul_of_nonneg_left (show 7 / 10 ≤ 1 - N y by grind) (show 0 ≤ 2 * N (q - dl) by grind)
  grind
end
/-- From the quotient to the new point. -/
theorem finish {z rt q : C2} (hz : fC z) (hn : N (cv z) ≤ 193 / 64) (hr : fC rt) (er : cv z = cv rt + dl) (hq : fC q) (nq : N (cv q - dl) ≤ 9 / 1000) : fC (subC z q) ∧ fC (subC (subC z q) rt) ∧ N (cv (subC (subC z q) rt)) ≤ 19 / 2000 := by
  have t1 := N_tri (cv q) dl
  rw [N_dl] at t1
  have t2 := N_sub (cv z) (cv q)
  have h5 : N (cv z - cv q) ≤ 4 := by grind
  obtain ⟨f1, n1⟩ := subC_near hz hq (lt_of_p2 (a := 2) (Rat.le_trans h5 (by decide +kernel)) (by decide))
  have k1 := mul_le (show u1 ≤ 1 / 1000000 by decide +kernel) h5 (N_nonneg _) (by decide +kernel)
  have n1' : N (cv (subC z q) - (cv z - cv q)) ≤ 1 / 1000000 * 4 + 1 / 1000000 := Rat.le_trans n1 (add_le k1 (by decide +kernel))
  have e2 : cv (subC z q) - cv rt = (cv (subC z q) - (cv z - cv q)) - (cv q - dl) := by
    rw [er]; exact q2e (by simp; grind) (by simp; grind)
  have t3 := N_sub (cv (subC z q) - (cv z - cv q)) (cv q - dl)
  rw [← e2] at t3
  clear n1 k1
  have h6 : N (cv (subC z q) - cv rt) ≤ 9 / 1000 + 1 / 100000 := by grind
  obtain ⟨f2, n2⟩ := subC_near f1 hr (lt_of_p2 (a := 2) (Rat.le_trans h6 (by decide +kernel)) (by decide))
  have k2 := mul_le (show u1 ≤ 1 / 1000000 by decide +kernel) h6 (N_nonneg _) (by decide +kernel)
  have n2' : N (cv (subC (subC z q) rt) - (cv (subC z q) - cv rt)) ≤ 1 / 1000000 * (9 / 1000 + 1 / 100000) + 1 / 1000000 := Rat.le_trans n2 (add_le k2 (by decide +kernel))
  have t4 := N_tri (cv (subC (subC z q) rt)) (cv (subC z q) - cv rt)
  clear n2 k2
  exact ⟨f1, f2, by grind⟩
end Go.Proofs.YtfnhddaofllniaaGreat

/- Newton's and Halley's steps on words. Conditions: the three values are near those of a simple root. -/
namespace Go.Proofs.YtfnhddaofllniaaGreat
open Go
set_option linter.unusedSimpArgs false
set_option linter.unusedVariables false

theorem pos_of {x c : Rat} (hc : 0 < c) (h : c ≤ x) : 0 < x := by grind
/-- What the steps need. -/
structure StOk (F S S2 : List C2) (z rt : C2) (n : Nat) (K P m g h : Q2) : Prop where
  r : rootedF F = true
  vF : validF F = true
  pS : slopePolyF F = (S, true)
  vS : validF S = true
  pT : slopePolyF S = (S2, true)
  vT : validF S2 = true
  lS : 1 ≤ S.length ∧ S.length ≤ 5
  lT : 1 ≤ S2.length ∧ S2.length ≤ 5
  sF : safeN F z
  sS : safeN S z
  sT : safeN S2 z
  fz : fC z
  fr : fC rt
  nz : N (cv z) ≤ 193 / 64
  er : cv z = cv rt + dl
  fv : fC (nestedF F z)
  fs : fC (nestedF S z)
  ft : fC (nestedF S2 z)
  nn : NN n (cv (nestedF F z)) (cv (nestedF S z)) (cv (nestedF S2 z)) K P m g h
section
variable {F S S2 : List C2} {z rt : C2} {n : Nat} {K P m g h : Q2}
theorem StOk.at (H : StOk F S S2 z rt n K P m g h) : polyAtF F z = (nestedF F z, true) ∧ polyAtF S z = (nestedF S z, true) ∧ polyAtF S2 z = (nestedF S2 z, true) := by
  have hz := (fC_iff z).1 H.fz
  refine ⟨?_, ?_, ?_⟩
  · unfold polyAtF finiteX; rw [if_pos ⟨H.vF, hz⟩, if_pos ((fC_iff _).1 H.fv)]
  · unfold polyAtF finiteX; rw [if_pos ⟨H.vS, hz⟩, if_pos ((fC_iff _).1 H.fs)]
  · unfold polyAtF finiteX; rw [if_pos ⟨H.vT, hz⟩, if_pos ((fC_iff _).1 H.ft)]
theorem StOk.v0 (H : StOk F S S2 z rt n K P m g h) : zeroC (nestedF F z) = false := by
  cases hz : zeroC (nestedF F z) with
  | false => rfl
  | true =>
    obtain ⟨a, b⟩ := (zeroC_iff ((fC_iff _).1 H.fv)).1 hz
    have := H.nn.bounds.2.2.2.1
    have e : N (cv (nestedF F z)) = 0 := by
      show A (vN .f32 _) + A (vN .f32 _) = 0
      rw [a, b, A_zero]; decide +kernel
    rw [e] at this
    exact absurd this (by decide +kernel)
/-- Newton's step. -/
theorem StOk.newton (H : StOk F S S2 z rt n K P m g h) : safeStep F z ∧ ∃ z', stepF F z = (z', true) ∧ fC z' ∧ fC (subC z' rt) ∧ N (cv (subC z' rt)) ≤ 19 / 2000 := by
  obtain ⟨b1, b2, b3, b4, b5, _, _, _⟩ := H.nn.bounds
  obtain ⟨q, hq⟩ := quo_ex (cv (nestedF F z)) (s := cv (nestedF S z)) (pos_of (show (0 : Rat) < 1 / 8 by decide +kernel) b5)
  have nq := H.nn.newton hq
  have nq1 : N q ≤ 1 := by
    have := N_tri q dl
    rw [N_dl] at this
    grind
  obtain ⟨q1, q2⟩ := quoC_near H.fv H.fs hq (lt_of_p2 (a := 4) (Rat.le_trans b1 (by decide +kernel)) (by decide)) (lt_of_p2 (a := 10) (Rat.le_trans b2 (by decide +kernel)) (by decide)) (Rat.le_trans (by decide +kernel) b5) (lt_of_p2 (a := 0) (Rat.le_trans nq1 (by decide +kernel)) (by decide))
  have k1 := mul_le (show u1 ≤ 1 / 1000000 by decide +kernel) nq1 (N_nonneg _) (by decide +kernel)
  have n1 : N (cv (quoC (nestedF F z) (nestedF S z)) - q) ≤ 1 / 1000000 * 1 + 1 / 1000000 := Rat.le_trans q2.2 (add_le k1 (by decide +kernel))
  have n2 : N (cv (quoC (nestedF F z) (nestedF S z)) - dl) ≤ 9 / 1000 := by
    have e : cv (quoC (nestedF F z) (nestedF S z)) - dl = (cv (quoC (nestedF F z) (nestedF S z)) - q) + (q - dl) := q2e (by simp; grind) (by simp; grind)
    rw [e]
    have := N_add (cv (quoC (nestedF F z) (nestedF S z)) - q) (q - dl)
    clear k1 q2
    grind
  obtain ⟨c1, c2, c3⟩ := finish H.fz H.nz H.fr H.er q2.1 n2
  obtain ⟨e, hs⟩ := step_shape H.r H.vF H.pS H.vS H.fz H.fv H.fs
  refine ⟨hs.2 ⟨H.sF, H.sS, q1⟩, subC z (quoC (nestedF F z) (nestedF S z)), ?_, c1, c2, c3⟩
  rw [e, if_neg (by rw [H.v0]; decide), if_pos ((fC_iff _).1 q2.1)]
  unfold finiteX
  rw [if_pos ((fC_iff _).1 c1)]
end
/-- Halley's quotient. -/
def halA (v s : C2) : C2 := scaleC (mulC v s) (kf 2)
def halB (v s t : C2) : C2 := subC (scaleC (mulC s s) (kf 2)) (mulC v t)
def halQ (v s t : C2) : C2 := quoC (halA v s) (halB v s t)
def halSafe (v s t : C2) : Prop := fit2 (timesF v s) ∧ fit2 (timesF s s) ∧ fit2 (timesF v t) ∧ quoFit (halA v s) (halB v s t)
theorem hal_pure {v s t M1 M2 M3 B : Q2} {u e : Rat} (hu : 0 ≤ u) (hu2 : u ≤ 1 / 1000000) (he : 0 ≤ e) (he2 : e ≤ 1 / 1000000000000)
    (h1 : N (M1 - v * s) ≤ u * N (v * s) + e) (h2 : N (M2 - s * s) ≤ u * N (s * s) + e) (h3 : N (M3 - v * t) ≤ u * N (v * t) + e)
    (h4 : N (B - ((M2 + M2) - M3)) ≤ u * N ((M2 + M2) - M3) + e) {n : Nat} {K P m g h : Q2} (H : NN n v s t K P m g h) :
    N ((M1 + M1) - sc 2 (v * s)) * (N K * N K) ≤ 1 / 100000 ∧ N (B - (sc 2 (s * s) - v * t)) * (N K * N K) ≤ 1 / 1000 := by
  obtain ⟨_, _, _, _, _, b6, b7, b8⟩ := H.bounds
  have hk := H.k
  have pK := N_nonneg K
  have kk : 0 ≤ N K * N K := Rat.mul_nonneg pK pK
  have kk49 : N K * N K ≤ 7 * 7 := mul_le hk hk pK (by decide)
  have x1 : N (v * s) * (N K * N K) ≤ 1 / 7 * 9 := by
    have a := Rat.mul_le_mul_of_nonneg_right (N_mul v s) kk
    have b := mul_le b6 b7 (Rat.mul_nonneg (N_nonneg _) pK) (by decide +kernel)
    grind
  have x2 : N (s * s) * (N K * N K) ≤ 9 * 9 := by
    have a := Rat.mul_le_mul_of_nonneg_right (N_mul s s) kk
    have b := mul_le b7 b7 (Rat.mul_nonneg (N_nonneg _) pK) (by decide +kernel)
    grind
  have x3 : N (v * t) * (N K * N K) ≤ 1 / 7 * 99 := by
    have a := Rat.mul_le_mul_of_nonneg_right (N_mul v t) kk
    have b := mul_le b6 b8 (Rat.mul_nonneg (N_nonneg _) pK) (by decide +kernel)
    grind
  have y1 : N ((M1 + M1) - sc 2 (v * s)) ≤ 2 * (u * N (v * s) + e) := by
    have e1 : (M1 + M1) - sc 2 (v * s) = sc 2 (M1 - v * s) := q2e (by simp; grind) (by simp; grind)
    rw [e1, N_scp (by decide)]; grind
  have c2 : N ((M2 + M2) - M3 - (sc 2 (s * s) - v * t)) ≤ 2 * (u * N (s * s) + e) + (u * N (v * t) + e) := by
    have e1 : (M2 + M2) - M3 - (sc 2 (s * s) - v * t) = sc 2 (M2 - s * s) - (M3 - v * t) := q2e (by simp; grind) (by simp; grind)
    have a := N_sub (sc 2 (M2 - s * s)) (M3 - v * t)
    rw [N_scp (by decide)] at a
    rw [e1]; grind
  have c3 : N ((M2 + M2) - M3) ≤ 2 * N (s * s) + N (v * t) + (2 * (u * N (s * s) + e) + (u * N (v * t) + e)) := by
    have a := N_tri ((M2 + M2) - M3) (sc 2 (s * s) - v * t)
    have b := N_sub (sc 2 (s * s)) (v * t)
    rw [N_scp (by decide)] at b
    grind
  have c4 : N (B - (sc 2 (s * s) - v * t)) ≤ N (B - ((M2 + M2) - M3)) + N ((M2 + M2) - M3 - (sc 2 (s * s) - v * t)) := by
    have e1 : B - (sc 2 (s * s) - v * t) = (B - ((M2 + M2) - M3)) + ((M2 + M2) - M3 - (sc 2 (s * s) - v * t)) := q2e (by simp; grind) (by simp; grind)
    rw [e1]; exact N_add _ _
  have c5 := Rat.mul_le_mul_of_nonneg_left c3 hu
  have p1 := N_nonneg (v * s)
  have p2' := N_nonneg (s * s)
  have p3 := N_nonneg (v * t)
  have uu : u * u ≤ 1 / 1000000 * u := Rat.mul_le_mul_of_nonneg_right hu2 hu
  have uu0 : 0 ≤ u * u := Rat.mul_nonneg hu hu
  have z1 := Rat.mul_le_mul_of_nonneg_right uu p2'
  have z2 := Rat.mul_le_mul_of_nonneg_right uu p3
  have z3 : u * e ≤ 1 / 1000000 * e := Rat.mul_le_mul_of_nonneg_right hu2 he
  have w1 : N (B - (sc 2 (s * s) - v * t)) ≤ 5 * (u * N (s * s)) + 3 * (u * N (v * t)) + 5 * e := by
    have w2 := Rat.mul_nonneg hu p2'
    have w3 := Rat.mul_nonneg hu p3
    grind
  clear c2 c3 c4 c5 h1 h2 h3 h4 z1 z2 z3 uu uu0
  have t1 := mul_le hu2 x1 (Rat.mul_nonneg p1 kk) (by decide +kernel)
  have t2 := mul_le hu2 x2 (Rat.mul_nonneg p2' kk) (by decide +kernel)
  have t3 := mul_le hu2 x3 (Rat.mul_nonneg p3 kk) (by decide +kernel)
  have t4 := mul_le he2 kk49 kk (by decide +kernel)
  have y2 := Rat.mul_le_mul_of_nonneg_right y1 kk
  have y3 := Rat.mul_le_mul_of_nonneg_right w1 kk
  constructor
  · have : 2 * (u * N (v * s) + e) * (N K * N K) = 2 * (u * (N (v * s) * (N K * N K))) + 2 * (e * (N K * N K)) := by grind
    rw [this] at y2
    grind
  · have : (5 * (u * N (s * s)) + 3 * (u * N (v * t)) + 5 * e) * (N K * N K) = 5 * (u * (N (s * s) * (N K * N K))) + 3 * (u * (N (v * t) * (N K * N K))) + 5 * (e * (N K * N K)) := by grind
    rw [this] at y3
    grind
section
variable {F S S2 : List C2} {z rt : C2} {n : Nat} {K P m g h : Q2}
theorem StOk.halley (H : StOk F S S2 z rt n K P m g h) : halSafe (nestedF F z) (nestedF S z) (nestedF S2 z) ∧ fC (halQ (nestedF F z) (nestedF S z) (nestedF S2 z)) ∧ fC (subC z (halQ (nestedF F z) (nestedF S z) (nestedF S2 z))) ∧
    fC (subC (subC z (halQ (nestedF F z) (nestedF S z) (nestedF S2 z))) rt) ∧ N (cv (subC (subC z (halQ (nestedF F z) (nestedF S z) (nestedF S2 z))) rt)) ≤ 19 / 2000 := by
  obtain ⟨b1, b2, b3, b4, b5, _, _, _⟩ := H.nn.bounds
  have fv := H.fv; have fs := H.fs; have ft := H.ft
  have nn := H.nn
  generalize nestedF F z = v at *
  generalize nestedF S z = s at *
  generalize nestedF S2 z = t at *
  have lv : N (cv v) < p2 100 := lt_of_p2 (a := 4) (Rat.le_trans b1 (by decide +kernel)) (by decide)
  have ls : N (cv s) < p2 100 := lt_of_p2 (a := 10) (Rat.le_trans b2 (by decide +kernel)) (by decide)
  have lt' : N (cv t) < p2 100 := lt_of_p2 (a := 13) (Rat.le_trans b3 (by decide +kernel)) (by decide)
  have m200 : ∀ {x : Rat}, x < p2 100 → x < p2 200 := fun hx => by have := p2_mono (show (100 : Int) ≤ 200 by decide); grind
  have l1 : N (cv v * cv s) ≤ 5040 := Rat.le_trans (N_mul _ _) (Rat.le_trans (mul_le b1 b2 (N_nonneg _) (by decide)) (by decide +kernel))
  have l2 : N (cv s * cv s) ≤ 313600 := Rat.le_trans (N_mul _ _) (Rat.le_trans (mul_le b2 b2 (N_nonneg _) (by decide)) (by decide +kernel))
  have l3 : N (cv v * cv t) ≤ 56700 := Rat.le_trans (N_mul _ _) (Rat.le_trans (mul_le b1 b3 (N_nonneg _) (by decide)) (by decide +kernel))
  obtain ⟨g1, r1⟩ := mulC_near fv fs (m200 lv) (m200 ls) (lt_of_p2 (a := 20) (Rat.le_trans l1 (by decide +kernel)) (by decide))
  obtain ⟨g2, r2⟩ := mulC_near fs fs (m200 ls) (m200 ls) (lt_of_p2 (a := 20) (Rat.le_trans l2 (by decide +kernel)) (by decide))
  obtain ⟨g3, r3⟩ := mulC_near fv ft (m200 lv) (m200 lt') (lt_of_p2 (a := 20) (Rat.le_trans l3 (by decide +kernel)) (by decide))
  have near_le : ∀ {r : C2} {q : Q2} {B : Rat}, Near r q → N q ≤ B → N (cv r) ≤ B + (1 / 1000000 * B + 1) := by
    intro r q B hr hB
    have t1 := N_tri (cv r) q
    have t2 := hr.2
    have k1 := mul_le (show u1 ≤ 1 / 1000000 by decide +kernel) hB (N_nonneg _) (by decide +kernel)
    have t3 : N (cv r - q) ≤ 1 / 1000000 * B + 1 := Rat.le_trans t2 (add_le k1 (by decide +kernel))
    clear t2 k1
    grind
  have n1 := near_le r1 l1
  have n2 := near_le r2 l2
  have n3 := near_le r3 l3
  obtain ⟨s1, s2⟩ := scale2 r1.1 (lt_of_p2 (a := 20) (Rat.le_trans n1 (by decide +kernel)) (by decide))
  obtain ⟨s3, s4⟩ := scale2 r2.1 (lt_of_p2 (a := 20) (Rat.le_trans n2 (by decide +kernel)) (by decide))
  have n4 : N (cv (scaleC (mulC s s) (kf 2)) - cv (mulC v t)) ≤ 1000000 := by
    rw [s4]
    have a := N_sub (cv (mulC s s) + cv (mulC s s)) (cv (mulC v t))
    have b := N_add (cv (mulC s s)) (cv (mulC s s))
    clear near_le
    grind
  have r4 := subC_near s3 r3.1 (lt_of_p2 (a := 20) (Rat.le_trans n4 (by decide +kernel)) (by decide))
  obtain ⟨p1, p2'⟩ := hal_pure (Rat.le_of_lt u1_pos) (by decide +kernel) (Rat.le_of_lt e1_pos) (by decide +kernel) r1.2 r2.2 r3.2 (by have := r4.2; rw [s4] at this; exact this) nn
  have eA : cv (halA v s) = sc 2 (cv v * cv s) + ((cv (mulC v s) + cv (mulC v s)) - sc 2 (cv v * cv s)) := by
    unfold halA; rw [s2]; exact q2e (by simp; grind) (by simp; grind)
  have eB : cv (halB v s t) = (sc 2 (cv s * cv s) - cv v * cv t) + (cv (halB v s t) - (sc 2 (cv s * cv s) - cv v * cv t)) := q2e (by simp; grind) (by simp; grind)
  have hpos : 1 / 40 ≤ N (cv (halB v s t)) := by
    have p3 : N (cv (halB v s t) - (sc 2 (cv s * cv s) - cv v * cv t)) * (N K * N K) ≤ 1 / 1000 := p2'
    have := nn.halley_den p3
    rw [← eB] at this
    exact this
  obtain ⟨q, hq⟩ := quo_ex (cv (halA v s)) (s := cv (halB v s t)) (pos_of (show (0 : Rat) < 1 / 40 by decide +kernel) hpos)
  have p3 : N (cv (halB v s t) - (sc 2 (cv s * cv s) - cv v * cv t)) * (N K * N K) ≤ 1 / 1000 := p2'
  have nq := nn.halley (q := q) (by rw [← eA, ← eB]; exact hq) p1 p3
  have nq1 : N q ≤ 1 := by
    have := N_tri q dl
    rw [N_dl] at this
    grind
  have nA : N (cv (halA v s)) ≤ 20000 := by
    unfold halA; rw [s2]
    have := N_add (cv (mulC v s)) (cv (mulC v s))
    grind
  have nB : N (cv (halB v s t)) ≤ 2000002 := by
    have := near_le r4 n4
    unfold halB
    grind
  obtain ⟨q1, q2⟩ := quoC_near s1 r4.1 hq (lt_of_p2 (a := 20) (Rat.le_trans nA (by decide +kernel)) (by decide)) (lt_of_p2 (a := 30) (Rat.le_trans nB (by decide +kernel)) (by decide)) (Rat.le_trans (by decide +kernel) hpos) (lt_of_p2 (a := 0) (Rat.le_trans nq1 (by decide +kernel)) (by decide))
  have k1 := mul_le (show u1 ≤ 1 / 1000000 by decide +kernel) nq1 (N_nonneg _) (by decide +kernel)
  have n5 : N (cv (halQ v s t) - q) ≤ 1 / 1000000 * 1 + 1 / 1000000 := Rat.le_trans q2.2 (add_le k1 (by decide +kernel))
  have n6 : N (cv (halQ v s t) - dl) ≤ 9 / 1000 := by
    have e : cv (halQ v s t) - dl = (cv (halQ v s t) - q) + (q - dl) := q2e (by simp; grind) (by simp; grind)
    rw [e]
    have := N_add (cv (halQ v s t) - q) (q - dl)
    clear k1 q2 near_le
    grind
  obtain ⟨c1, c2, c3⟩ := finish H.fz H.nz H.fr H.er q2.1 n6
  exact ⟨⟨g1, g2, g3, q1⟩, q2.1, c1, c2, c3⟩
end
end Go.Proofs.YtfnhddaofllniaaGreat
