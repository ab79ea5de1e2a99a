/- Square roots and lengths on values. Conditions: numbers that are not below 0 and not too great. -/
import Derived.Test.YtklonahkacikbaaU9
namespace Go.Proofs.Ytklonahkacikbaa
open Go
set_option linter.unusedSimpArgs false
set_option linter.unusedVariables false

theorem rootFrom_lt (n : Nat) : ∀ todo root, n < (root + 2 ^ todo) * (root + 2 ^ todo) → n < (Ieee.Datum.rootFrom n todo root + 1) * (Ieee.Datum.rootFrom n todo root + 1) := by
  intro todo
  induction todo with
  | zero => intro root h; simpa [Ieee.Datum.rootFrom] using h
  | succ k ih =>
    intro root h
    unfold Ieee.Datum.rootFrom
    dsimp only
    rw [Nat.one_shiftLeft]
    split
    · refine ih _ ?_
      rw [Nat.add_assoc, ← Nat.two_mul, ← Nat.pow_succ']; exact h
    · rename_i h2; exact ih _ (by omega)
theorem root_near {m : Nat} {i : Int} : ∃ M P, Ieee.Datum.root 54 (.number false m i) = some (.number false M P) ∧ A (((M : Rat) * p2 P) * ((M : Rat) * p2 P) - (m : Rat) * p2 i) ≤ p2 (-50) * ((m : Rat) * p2 i) := by
  unfold Ieee.Datum.root
  dsimp only
  by_cases hm : m = 0
  · rw [if_pos hm]
    refine ⟨m, i, rfl, ?_⟩
    rw [hm, show ((0 : Nat) : Rat) = 0 from rfl]
    rw [show (0 : Rat) * p2 i * (0 * p2 i) - 0 * p2 i = 0 by grind, A_zero]; grind
  · rw [if_neg hm]
    simp only [Bool.false_eq_true, if_false]
    have hml : 2 ^ m.log2 ≤ m := Nat.log2_self_le hm
    have hmore0 : 2 * 54 - m.log2 ≤ 2 * 54 - m.log2 + ((i - ((2 * 54 - m.log2 : Nat) : Int)) % 2).toNat := Nat.le_add_right _ _
    generalize hmore : 2 * 54 - m.log2 + ((i - ((2 * 54 - m.log2 : Nat) : Int)) % 2).toNat = more at *
    obtain ⟨E, hE⟩ : ∃ E : Int, i - (more : Int) = 2 * E := ⟨(i - (more : Int)) / 2, by omega⟩
    have hE2 : (i - (more : Int)) / 2 - 1 = E - 1 := by omega
    have hbig : 2 ^ 108 ≤ m <<< more := by
      rw [Nat.shiftLeft_eq]
      calc 2 ^ 108 ≤ 2 ^ (m.log2 + more) := Nat.pow_le_pow_right (by decide) (by omega)
        _ = 2 ^ m.log2 * 2 ^ more := Nat.pow_add ..
        _ ≤ m * 2 ^ more := Nat.mul_le_mul_right _ hml
    have hv : (m : Rat) * p2 i = ((m <<< more : Nat) : Rat) * (p2 E * p2 E) := by
      rw [Nat.shiftLeft_eq, Rat.natCast_mul, ← p2_nat, ← p2_add, Rat.mul_assoc, ← p2_add]; congr 2; omega
    rw [hv]
    generalize m <<< more = n at *
    have hl := rootFrom_le n (n.log2 / 2 + 1) 0 (by simp)
    have hn : n < 2 ^ (n.log2 + 1) := Nat.lt_log2_self
    have hg := rootFrom_lt n (n.log2 / 2 + 1) 0 (by
      rw [Nat.zero_add, ← Nat.pow_add]
      exact Nat.lt_of_lt_of_le hn (Nat.pow_le_pow_right (by decide) (by omega)))
    generalize Ieee.Datum.rootFrom n (n.log2 / 2 + 1) 0 = wh at *
    have hw : 2 ^ 53 ≤ wh := by
      rcases Nat.lt_or_ge wh (2 ^ 53) with h | h
      · have : (wh + 1) * (wh + 1) ≤ 2 ^ 53 * 2 ^ 53 := Nat.mul_le_mul h h
        have e : (2 : Nat) ^ 53 * 2 ^ 53 < 2 ^ 108 := by decide
        omega
      · exact h
    rw [hE2]
    refine ⟨_, _, rfl, ?_⟩
    obtain ⟨st, hst, hst1⟩ : ∃ st, (wh * wh != n).toNat = st ∧ st ≤ 1 := ⟨_, rfl, Bool.toNat_le _⟩
    rw [hst]
    have pE : p2 E = p2 (E - 1) + p2 (E - 1) := p2_dbl (by omega)
    have hp := p2_pos (E - 1)
    have c1 : ((wh * wh : Nat) : Rat) ≤ (n : Rat) := by exact_mod_cast hl
    have c2 : (n : Rat) ≤ (((wh + 1) * (wh + 1) : Nat) : Rat) := by exact_mod_cast Nat.le_of_lt hg
    have c3 : ((2 ^ 53 : Nat) : Rat) ≤ (wh : Rat) := by exact_mod_cast hw
    have c4 : (st : Rat) ≤ 1 := by exact_mod_cast hst1
    have c5 : (0 : Rat) ≤ (st : Rat) := by exact_mod_cast Nat.zero_le st
    rw [Rat.natCast_mul] at c1
    rw [Rat.natCast_mul, Rat.natCast_add, show ((1 : Nat) : Rat) = 1 from rfl] at c2
    have c6 : ((2 ^ 53 : Nat) : Rat) = 9007199254740992 := by decide +kernel
    rw [c6] at c3
    have e1' : ((2 * wh + st : Nat) : Rat) = 2 * (wh : Rat) + (st : Rat) := by rw [Rat.natCast_add, Rat.natCast_mul]; rfl
    rw [e1', pE, show p2 (-50) = 1 / 1125899906842624 by decide +kernel]
    generalize p2 (E - 1) = x at *
    generalize (wh : Rat) = y at *
    generalize (n : Rat) = z at *
    generalize (st : Rat) = t at *
    clear hv hbig hl hn hg hw hst hst1 pE e1' c6 hE hE2 hmore hmore0 hml hm
    have e3 : (2 * y + t) * x * ((2 * y + t) * x) - z * ((x + x) * (x + x)) = ((2 * y + t) * (2 * y + t) - 4 * z) * (x * x) := by grind
    have e4 : 1 / 1125899906842624 * (z * ((x + x) * (x + x))) = (1 / 1125899906842624 * (4 * z)) * (x * x) := by grind
    have hxx : 0 ≤ x * x := Rat.le_of_lt (Rat.mul_pos hp hp)
    rw [e3, e4, A_mul, A_of_nonneg hxx]
    refine Rat.mul_le_mul_of_nonneg_right ?_ hxx
    have yt : t * t ≤ 1 * 1 := mul_le c4 c4 c5 (by decide)
    have yt2 : y * t ≤ y * 1 := Rat.mul_le_mul_of_nonneg_left c4 (by grind)
    have yt3 : 0 ≤ y * t := Rat.mul_nonneg (by grind) c5
    have yt4 : 0 ≤ t * t := Rat.mul_nonneg c5 c5
    have yy : 9007199254740992 * y ≤ y * y := Rat.mul_le_mul_of_nonneg_right c3 (by grind)
    rw [A_le]
    constructor <;> grind

theorem sq_val {y : Nat} (h : fN .f64 y = true) (h0 : 0 ≤ vN .f64 y) (hb : vN .f64 y ≤ p2 90) : fN .f64 (sqF y) = true ∧ fit1 (sqF y) ∧
    ∃ x, 0 ≤ x ∧ x ≤ p2 46 ∧ A (x * x - vN .f64 y) ≤ p2 (-50) * vN .f64 y ∧ A (vN .f64 (sqF y) - x) ≤ p2 (-53) * x + p2 (-1075) := by
  obtain ⟨s, m, i, hd⟩ := isNum_ex h
  have hv : vN .f64 y = sg s ((m : Rat) * p2 i) := by unfold vN; rw [hd]; rfl
  have hm0 : (0 : Rat) ≤ (m : Rat) * p2 i := Rat.mul_nonneg (by exact_mod_cast Nat.zero_le m) (Rat.le_of_lt (p2_pos i))
  have hv2 : vN .f64 y = (m : Rat) * p2 i := by
    cases s
    · exact hv
    · rw [hv] at h0 ⊢
      simp only [sg, if_true] at h0 ⊢
      have : (m : Rat) * p2 i = 0 := Rat.le_antisymm (by grind) hm0
      grind
  have hroot : ∃ s' M P, Ieee.Datum.root 54 (.number s m i) = some (.number s' M P) ∧ sg s' ((M : Rat) * p2 P) = (M : Rat) * p2 P ∧ A (((M : Rat) * p2 P) * ((M : Rat) * p2 P) - (m : Rat) * p2 i) ≤ p2 (-50) * ((m : Rat) * p2 i) := by
    cases s
    · obtain ⟨M, P, a, b⟩ := root_near (m := m) (i := i)
      exact ⟨false, M, P, a, rfl, b⟩
    · have hz : m = 0 := by
        rcases Nat.eq_zero_or_pos m with hh | hh
        · exact hh
        · exfalso
          rw [hv] at h0
          simp only [sg, if_true] at h0
          have : (0 : Rat) < (m : Rat) * p2 i := Rat.mul_pos (by exact_mod_cast hh) (p2_pos i)
          grind
      subst hz
      refine ⟨true, 0, i, rfl, ?_, ?_⟩
      · simp only [sg, if_true, show ((0 : Nat) : Rat) = 0 from rfl]; grind
      · rw [show ((0 : Nat) : Rat) = 0 from rfl, show (0 : Rat) * p2 i * (0 * p2 i) - 0 * p2 i = 0 by grind, A_zero]; grind
  obtain ⟨s', M, P, hr, hsg, hx⟩ := hroot
  rw [← hv2] at hx
  have hx0 : (0 : Rat) ≤ (M : Rat) * p2 P := Rat.mul_nonneg (by exact_mod_cast Nat.zero_le M) (Rat.le_of_lt (p2_pos P))
  have hx1 : (M : Rat) * p2 P ≤ p2 46 := by
    refine sq_le_sq (Rat.le_of_lt (p2_pos 46)) ?_
    have a1 := le_A (((M : Rat) * p2 P) * ((M : Rat) * p2 P) - vN .f64 y)
    have a2 : p2 (-50) * vN .f64 y ≤ 1 * vN .f64 y := Rat.mul_le_mul_of_nonneg_right (p2_small (by decide)) h0
    have a3 : p2 46 * p2 46 = p2 92 := by rw [← p2_add]; rfl
    have a4 : p2 90 + p2 90 ≤ p2 92 := by decide +kernel
    rw [a3]
    generalize p2 92 = c at *
    generalize p2 90 = d at *
    generalize p2 (-50) = e at *
    grind
  have hq : sqF y = nrm .f64 (FloatKind.f64.encode (.number s' M P)) := by
    unfold sqF Ieee.Format.sqrt
    rw [show FloatKind.f64.format.read y = .number s m i from hd, show Ieee.Datum.root (FloatKind.f64.format.fractionBits + 2) (.number s m i) = some (.number s' M P) from hr]
    rfl
  have hR : Res .f64 (nrm .f64 (FloatKind.f64.encode (.number s' M P))) (valD (.number s' M P)) := res_write rfl (by
    rw [A_val]; exact lt_of_p2 hx1 (by decide))
  have hval : valD (.number s' M P) = (M : Rat) * p2 P := hsg
  rw [hval] at hR
  rw [hq]
  have hRe : A (vN .f64 (nrm .f64 (FloatKind.f64.encode (.number s' M P))) - (M : Rat) * p2 P) ≤ p2 (-53) * ((M : Rat) * p2 P) + p2 (-1075) := by
    have := hR.2.1; rw [A_of_nonneg hx0] at this; exact this
  refine ⟨hR.1, (nw_ok hR.1 ?_).1, (M : Rat) * p2 P, hx0, hx1, hx, hRe⟩
  have b1 := A_add (vN .f64 (nrm .f64 (FloatKind.f64.encode (.number s' M P))) - (M : Rat) * p2 P) ((M : Rat) * p2 P)
  rw [show vN .f64 (nrm .f64 (FloatKind.f64.encode (.number s' M P))) - (M : Rat) * p2 P + (M : Rat) * p2 P = vN .f64 (nrm .f64 (FloatKind.f64.encode (.number s' M P))) by grind, A_of_nonneg hx0] at b1
  have b2 : p2 (-53) * ((M : Rat) * p2 P) ≤ 1 * ((M : Rat) * p2 P) := Rat.mul_le_mul_of_nonneg_right (p2_small (by decide)) hx0
  have b3 : p2 (-1075) ≤ 1 := p2_small (by decide)
  have b4 : p2 46 + p2 46 + 1 < p2 127 := by decide +kernel
  generalize p2 127 = c at *
  generalize p2 46 = d at *
  generalize p2 (-53) = e at *
  generalize p2 (-1075) = f at *
  clear hR hq hr hsg hval
  grind

/-- The root of what is at most a square. -/
theorem sq_le {y : Nat} {c : Rat} (h : fN .f64 y = true) (h0 : 0 ≤ vN .f64 y) (hb : vN .f64 y ≤ p2 90) (hc : p2 (-60) ≤ c) (hy : vN .f64 y ≤ c * c) : vN .f64 (sqF y) ≤ c * (1 + p2 (-40)) := by
  obtain ⟨_, _, x, x0, x1, e1', e2'⟩ := sq_val h h0 hb
  have c0 : 0 < c := by have := p2_pos (-60); grind
  have k1 : x ≤ c * (1 + p2 (-45)) := by
    refine sq_le_sq (Rat.mul_nonneg (Rat.le_of_lt c0) (by have := p2_pos (-45); grind)) ?_
    have a1 := le_A (x * x - vN .f64 y)
    have a2 := Rat.mul_le_mul_of_nonneg_left hy (Rat.le_of_lt (p2_pos (-50)))
    have a3 : p2 (-50) ≤ p2 (-45) := p2_mono (by decide)
    have a4 : 0 ≤ c * c := Rat.le_of_lt (Rat.mul_pos c0 c0)
    have a5 := Rat.mul_le_mul_of_nonneg_right a3 a4
    have a6 : 0 ≤ p2 (-45) * p2 (-45) * (c * c) := Rat.mul_nonneg (Rat.le_of_lt (Rat.mul_pos (p2_pos _) (p2_pos _))) a4
    have a7 := Rat.mul_nonneg (Rat.le_of_lt (p2_pos (-45))) a4
    generalize p2 (-45) = u at *
    generalize p2 (-50) = v at *
    grind
  have a1 := le_A (vN .f64 (sqF y) - x)
  have a2 := Rat.mul_le_mul_of_nonneg_left k1 (Rat.le_of_lt (p2_pos (-53)))
  have a3 : p2 (-1075) ≤ p2 (-45) * p2 (-60) := by rw [← p2_add]; exact p2_mono (by decide)
  have a4 := Rat.mul_le_mul_of_nonneg_left hc (Rat.le_of_lt (p2_pos (-45)))
  have a5 : p2 (-53) * (1 + p2 (-45)) + p2 (-45) + p2 (-45) ≤ p2 (-40) := by decide +kernel
  have a6 := Rat.mul_le_mul_of_nonneg_right a5 (Rat.le_of_lt c0)
  generalize p2 (-45) = u at *
  generalize p2 (-53) = v at *
  generalize p2 (-40) = w at *
  generalize p2 (-1075) = t at *
  generalize p2 (-60) = l at *
  clear hy hb h e1' h0 a5
  grind
/-- The root of what is at least a square. -/
theorem sq_ge {y : Nat} {c : Rat} (h : fN .f64 y = true) (h0 : 0 ≤ vN .f64 y) (hb : vN .f64 y ≤ p2 90) (hc : p2 (-60) ≤ c) (hy : c * c ≤ vN .f64 y) : c * (1 - p2 (-40)) ≤ vN .f64 (sqF y) := by
  obtain ⟨_, _, x, x0, x1, e1', e2'⟩ := sq_val h h0 hb
  have c0 : 0 < c := by have := p2_pos (-60); grind
  have k1 : c * (1 - p2 (-45)) ≤ x := by
    refine sq_le_sq x0 ?_
    have a1 := le_A (x * x - vN .f64 y)
    have a3 : p2 (-50) ≤ p2 (-45) := p2_mono (by decide)
    have b1 : p2 (-45) * p2 (-45) ≤ p2 (-46) := by decide +kernel
    have b2 : p2 (-46) + p2 (-46) = p2 (-45) := p2_two (-46)
    have a4 : 0 ≤ c * c := Rat.le_of_lt (Rat.mul_pos c0 c0)
    have b3 : p2 (-50) ≤ p2 (-46) := p2_mono (by decide)
    have b4 : p2 (-50) ≤ 1 := p2_small (by decide)
    have a5 := Rat.mul_le_mul_of_nonneg_right hy (show 0 ≤ 1 - p2 (-50) by grind)
    have a6 := Rat.mul_le_mul_of_nonneg_right b1 a4
    have a7 := Rat.mul_le_mul_of_nonneg_right b3 a4
    have a8 := Rat.mul_nonneg (Rat.le_of_lt (p2_pos (-46))) a4
    have a9 : p2 (-45) * (c * c) = p2 (-46) * (c * c) + p2 (-46) * (c * c) := by rw [← b2]; grind
    have a10 : c * (1 - p2 (-45)) * (c * (1 - p2 (-45))) = c * c - (p2 (-45) * (c * c) + p2 (-45) * (c * c)) + p2 (-45) * p2 (-45) * (c * c) := by grind
    have a11 : c * c * (1 - p2 (-50)) = c * c - p2 (-50) * (c * c) := by grind
    have a12 : vN .f64 y * (1 - p2 (-50)) ≤ x * x := by grind
    rw [a10]
    rw [a11] at a5
    generalize p2 (-45) * p2 (-45) * (c * c) = t1 at *
    generalize p2 (-45) * (c * c) = t2 at *
    generalize p2 (-46) * (c * c) = t3 at *
    generalize p2 (-50) * (c * c) = t4 at *
    generalize vN .f64 y * (1 - p2 (-50)) = t5 at *
    clear hc hb h e1' e2' x1 a1 a10 a11 hy b1 b2 b3 b4 a3
    grind
  have a1 := le_A (vN .f64 (sqF y) - x)
  have k2 : x - (p2 (-53) * x + p2 (-1075)) ≤ vN .f64 (sqF y) := by grind
  have a2 : p2 (-53) ≤ 1 := p2_small (by decide)
  have a2' := Rat.mul_le_mul_of_nonneg_right k1 (show 0 ≤ 1 - p2 (-53) by grind)
  have a3 : p2 (-1075) ≤ p2 (-45) * p2 (-60) := by rw [← p2_add]; exact p2_mono (by decide)
  have a4 := Rat.mul_le_mul_of_nonneg_left hc (Rat.le_of_lt (p2_pos (-45)))
  have a5 : 1 - p2 (-40) ≤ (1 - p2 (-45)) * (1 - p2 (-53)) - p2 (-45) := by decide +kernel
  have a6 := Rat.mul_le_mul_of_nonneg_left a5 (Rat.le_of_lt c0)
  generalize p2 (-45) = u at *
  generalize p2 (-53) = v at *
  generalize p2 (-40) = w at *
  generalize p2 (-1075) = t at *
  generalize p2 (-60) = l at *
  clear hy hb h e1' e2' h0 a5 a1
  grind
/-- A root narrowed. -/
theorem nw_near {y : Nat} {a b : Rat} (h : fN .f64 y = true) (ha : p2 (-60) ≤ a) (hb : b ≤ p2 60) (h1 : a ≤ vN .f64 y) (h2 : vN .f64 y ≤ b) : fit1 y ∧ fN .f32 (nw y) = true ∧ a * (1 - p2 (-23)) ≤ vN .f32 (nw y) ∧ vN .f32 (nw y) ≤ b * (1 + p2 (-23)) := by
  have v0 : 0 < vN .f64 y := by have := p2_pos (-60); grind
  obtain ⟨f1, R⟩ := nw_ok h (by rw [A_of_nonneg (Rat.le_of_lt v0)]; exact lt_of_p2 (Rat.le_trans h2 hb) (by decide))
  have e : A (vN .f32 (nw y) - vN .f64 y) ≤ p2 (-24) * vN .f64 y + p2 (-150) := by
    have := R.2.1; rw [A_of_nonneg (Rat.le_of_lt v0)] at this; exact this
  have a1 := le_A (vN .f32 (nw y) - vN .f64 y)
  have a2 : p2 (-150) ≤ p2 (-24) * p2 (-60) := by rw [← p2_add]; exact p2_mono (by decide)
  have a3 := Rat.mul_le_mul_of_nonneg_left ha (Rat.le_of_lt (p2_pos (-24)))
  have a4 : p2 (-24) + p2 (-24) = p2 (-23) := p2_two (-24)
  have a5 := Rat.mul_le_mul_of_nonneg_left h2 (Rat.le_of_lt (p2_pos (-24)))
  have a6 : p2 (-24) ≤ 1 := p2_small (by decide)
  have a7 := Rat.mul_le_mul_of_nonneg_left h1 (show 0 ≤ 1 - p2 (-24) by grind)
  have a8 := Rat.mul_le_mul_of_nonneg_left (Rat.le_trans h1 h2) (Rat.le_of_lt (p2_pos (-24)))
  rw [← a4]
  refine ⟨f1, R.1, ?_, ?_⟩ <;> (generalize p2 (-24) = u at *; generalize p2 (-150) = v at *; generalize p2 (-60) = w at *; clear R a4 h; grind)
end Go.Proofs.Ytklonahkacikbaa

/- Lengths and comparisons on values. Conditions: numbers that are not too great. -/
namespace Go.Proofs.Ytklonahkacikbaa
open Go
set_option linter.unusedSimpArgs false
set_option linter.unusedVariables false

theorem cmp_ex {k : FloatKind} {x y : Nat} (hx : fN k x = true) (hy : fN k y = true) : ∃ (a b : Int), k.format.order x y = some (compare a b) ∧ (vN k x < vN k y ↔ a < b) ∧ (vN k x = vN k y ↔ a = b) := by
  obtain ⟨a, b, e, h1, h2, h3⟩ := order_num hx hy
  refine ⟨a, b, h3, ?_, ?_⟩
  · rw [h1, h2]
    constructor
    · intro h
      rcases Int.lt_or_le a b with hh | hh
      · exact hh
      · have h4 : (b : Rat) ≤ (a : Rat) := by exact_mod_cast hh
        have := Rat.mul_le_mul_of_nonneg_right h4 (Rat.le_of_lt (p2_pos e))
        grind
    · intro h
      exact Rat.mul_lt_mul_of_pos_right (by exact_mod_cast h) (p2_pos e)
  · rw [h1, h2]
    constructor
    · intro h
      have := rcancel (p2_pos e) h
      exact_mod_cast this
    · intro h; rw [h]
theorem cmp_lss {k : FloatKind} {x y : Nat} (hx : fN k x = true) (hy : fN k y = true) : fcmp .lss k x y = decide (vN k x < vN k y) := by
  obtain ⟨a, b, h1, h2, h3⟩ := cmp_ex hx hy
  unfold fcmp
  rw [h1]
  simp only [h2]
  rcases Int.lt_trichotomy a b with h | h | h
  · rw [Int.compare_eq_lt.2 h]; simp [h]
  · rw [Int.compare_eq_eq.2 h]; subst h; simp
  · rw [Int.compare_eq_gt.2 h]; simp; omega
theorem cmp_gtr {k : FloatKind} {x y : Nat} (hx : fN k x = true) (hy : fN k y = true) : fcmp .gtr k x y = decide (vN k y < vN k x) := by
  obtain ⟨a, b, h1, h2, h3⟩ := cmp_ex hx hy
  obtain ⟨a', b', h1', h2', _⟩ := cmp_ex hy hx
  have hab : vN k y < vN k x ↔ b < a := by
    constructor
    · intro h
      rcases Int.lt_trichotomy a b with g | g | g
      · have := h2.2 g; grind
      · have := h3.2 g; grind
      · exact g
    · intro g
      have n1 : ¬ vN k x < vN k y := fun h => by have := h2.1 h; omega
      have n2 : vN k x ≠ vN k y := fun h => by have := h3.1 h; omega
      grind
  unfold fcmp
  rw [h1]
  simp only [hab]
  rcases Int.lt_trichotomy a b with h | h | h
  · rw [Int.compare_eq_lt.2 h]; simp; omega
  · rw [Int.compare_eq_eq.2 h]; subst h; simp
  · rw [Int.compare_eq_gt.2 h]; simp [h]
theorem cmp_eql {k : FloatKind} {x y : Nat} (hx : fN k x = true) (hy : fN k y = true) : fcmp .eql k x y = decide (vN k x = vN k y) := by
  obtain ⟨a, b, h1, h2, h3⟩ := cmp_ex hx hy
  unfold fcmp
  rw [h1]
  simp only [h3]
  rcases Int.lt_trichotomy a b with h | h | h
  · rw [Int.compare_eq_lt.2 h]; simp; omega
  · rw [Int.compare_eq_eq.2 h]; subst h; simp
  · rw [Int.compare_eq_gt.2 h]; simp; omega
theorem cmp_geq {k : FloatKind} {x y : Nat} (hx : fN k x = true) (hy : fN k y = true) : fcmp .geq k x y = !fcmp .lss k x y := by
  obtain ⟨a, b, h1, h2, h3⟩ := cmp_ex hx hy
  unfold fcmp
  rw [h1]
  cases compare a b <;> rfl
theorem cmp_leq {k : FloatKind} {x y : Nat} (hx : fN k x = true) (hy : fN k y = true) : fcmp .leq k x y = !fcmp .gtr k x y := by
  obtain ⟨a, b, h1, h2, h3⟩ := cmp_ex hx hy
  unfold fcmp
  rw [h1]
  cases compare a b <;> rfl
theorem cmp_neq {k : FloatKind} {x y : Nat} (hx : fN k x = true) (hy : fN k y = true) : fcmp .neq k x y = !fcmp .eql k x y := by
  obtain ⟨a, b, h1, h2, h3⟩ := cmp_ex hx hy
  unfold fcmp
  rw [h1]
  cases compare a b <;> rfl

theorem powerF_pos {d : C2} (hd : fC d) (hn : N (cv d) ≤ p2 44) : Pos .f64 (powerF d) := by
  have a1 : A (vN .f32 d.1) ≤ N (cv d) := re_le_N (cv d)
  have a2 : A (vN .f32 d.2) ≤ N (cv d) := im_le_N (cv d)
  have m1 : p2 44 < p2 200 := lt_of_p2 (Rat.le_refl (a := p2 44)) (by decide)
  have m2 : p2 44 < p2 1023 := lt_of_p2 (Rat.le_refl (a := p2 44)) (by decide)
  obtain ⟨p1, q1⟩ := wd_ok hd.1 (by grind)
  obtain ⟨p2', q2⟩ := wd_ok hd.2 (by grind)
  have k1 : A (vN .f32 d.1 * vN .f32 d.1) ≤ p2 88 := by
    rw [A_mul]
    have := mul_le (Rat.le_trans a1 hn) (Rat.le_trans a1 hn) (A_nonneg _) (Rat.le_of_lt (p2_pos 44))
    rw [← p2_add] at this; exact this
  have k2 : A (vN .f32 d.2 * vN .f32 d.2) ≤ p2 88 := by
    rw [A_mul]
    have := mul_le (Rat.le_trans a2 hn) (Rat.le_trans a2 hn) (A_nonneg _) (Rat.le_of_lt (p2_pos 44))
    rw [← p2_add] at this; exact this
  have m3 : p2 88 < p2 1023 := lt_of_p2 (Rat.le_refl (a := p2 88)) (by decide)
  have P1 := mul_pos p1 (by rw [q1]; grind)
  have P2 := mul_pos p2' (by rw [q2]; grind)
  obtain ⟨_, e1'⟩ := prod_exact hd.1 hd.1 (by grind) (by grind)
  obtain ⟨_, e2'⟩ := prod_exact hd.2 hd.2 (by grind) (by grind)
  have m4 : p2 88 + p2 88 = p2 89 := p2_two 88
  have m5 : p2 89 < p2 1023 := lt_of_p2 (Rat.le_refl (a := p2 89)) (by decide)
  exact add_pos P1 P2 (by rw [e1', e2']; have := A_add (vN .f32 d.1 * vN .f32 d.1) (vN .f32 d.2 * vN .f32 d.2); grind)
theorem nw_le {y : Nat} {b : Rat} (h : fN .f64 y = true) (h0 : 0 ≤ vN .f64 y) (ha : p2 (-60) ≤ b) (hb : b ≤ p2 60) (h2 : vN .f64 y ≤ b) : fit1 y ∧ fN .f32 (nw y) = true ∧ vN .f32 (nw y) ≤ b * (1 + p2 (-23)) := by
  obtain ⟨f1, R⟩ := nw_ok h (by rw [A_of_nonneg h0]; exact lt_of_p2 (Rat.le_trans h2 hb) (by decide))
  have e : A (vN .f32 (nw y) - vN .f64 y) ≤ p2 (-24) * vN .f64 y + p2 (-150) := by
    have := R.2.1; rw [A_of_nonneg h0] at this; exact this
  have a1 := le_A (vN .f32 (nw y) - vN .f64 y)
  have a2 : p2 (-150) ≤ p2 (-24) * p2 (-60) := by rw [← p2_add]; exact p2_mono (by decide)
  have a3 := Rat.mul_le_mul_of_nonneg_left ha (Rat.le_of_lt (p2_pos (-24)))
  have a4 : p2 (-24) + p2 (-24) = p2 (-23) := p2_two (-24)
  have a5 := Rat.mul_le_mul_of_nonneg_left h2 (Rat.le_of_lt (p2_pos (-24)))
  rw [← a4]
  refine ⟨f1, R.1, ?_⟩
  generalize p2 (-24) = u at *
  generalize p2 (-150) = v at *
  generalize p2 (-60) = w at *
  clear R a4 h
  grind
theorem p44 {B : Rat} (hB : B ≤ p2 40) : B ≤ p2 44 := Rat.le_trans hB (p2_mono (by decide))
/-- A length is at most the norm, nearly. -/
theorem longF_le2 {d : C2} {B : Rat} (hd : fC d) (hn40 : N (cv d) ≤ p2 40) (s2 : sqN (cv d) ≤ B * B) (h1 : p2 (-40) ≤ B) (h2 : B ≤ p2 40) : fit1 (sqF (powerF d)) ∧ fN .f32 (longF d) = true ∧ 0 ≤ vN .f32 (longF d) ∧ vN .f32 (longF d) ≤ B * (1 + p2 (-20)) := by
  have hp := powerF_pos hd (p44 hn40)
  have hl := longF_pos hd (p44 hn40)
  obtain ⟨w1, w2⟩ := powerF_ok hd (lt_of_p2 hn40 (by decide))
  have s0 := sqN_nonneg (cv d)
  have B0 : 0 < B := by have := p2_pos (-40); grind
  rw [A_of_nonneg s0] at w2
  have g := le_A (vN .f64 (powerF d) - sqN (cv d))
  have k1 : p2 (-53) * sqN (cv d) ≤ p2 (-53) * (B * B) := Rat.mul_le_mul_of_nonneg_left s2 (Rat.le_of_lt (p2_pos _))
  have k2 : p2 (-1075) ≤ p2 (-53) * (B * B) := by
    have a1 : p2 (-40) * p2 (-40) ≤ B * B := mul_le h1 h1 (Rat.le_of_lt (p2_pos _)) (Rat.le_of_lt B0)
    have a2 := Rat.mul_le_mul_of_nonneg_left a1 (Rat.le_of_lt (p2_pos (-53)))
    have a3 : p2 (-1075) ≤ p2 (-53) * (p2 (-40) * p2 (-40)) := by rw [← p2_add, ← p2_add]; exact p2_mono (by decide)
    grind
  have hB2 : B * B ≤ p2 80 := by
    have := mul_le h2 h2 (Rat.le_of_lt B0) (Rat.le_of_lt (p2_pos 40))
    rw [← p2_add] at this; exact this
  have hBB : 0 ≤ B * B := Rat.le_of_lt (Rat.mul_pos B0 B0)
  have k3 : vN .f64 (powerF d) ≤ (B * (1 + p2 (-45))) * (B * (1 + p2 (-45))) := by
    have e : (B * (1 + p2 (-45))) * (B * (1 + p2 (-45))) = B * B + (p2 (-45) + p2 (-45)) * (B * B) + p2 (-45) * p2 (-45) * (B * B) := by grind
    have a1 : p2 (-53) + p2 (-53) ≤ p2 (-45) + p2 (-45) := by decide +kernel
    have a2 := Rat.mul_le_mul_of_nonneg_right a1 hBB
    have a3 : 0 ≤ p2 (-45) * p2 (-45) * (B * B) := Rat.mul_nonneg (Rat.le_of_lt (Rat.mul_pos (p2_pos _) (p2_pos _))) hBB
    rw [e]
    generalize p2 (-45) = u at *
    generalize p2 (-53) = v at *
    generalize p2 (-1075) = t at *
    generalize B * B = bb at *
    clear e a1 h1 h2 hn40 B0 hB2
    grind
  have k4 : vN .f64 (powerF d) ≤ p2 90 := by
    have a1 : (p2 (-53) + p2 (-53)) * (B * B) ≤ 1 * (B * B) := Rat.mul_le_mul_of_nonneg_right (by decide +kernel) hBB
    have a2 : p2 80 + p2 80 ≤ p2 90 := by decide +kernel
    generalize p2 (-53) = v at *
    generalize p2 (-1075) = t at *
    generalize p2 90 = w at *
    generalize p2 80 = w' at *
    generalize B * B = bb at *
    clear h1 h2 hn40 B0 k3
    grind
  have c0 : p2 (-60) ≤ B * (1 + p2 (-45)) := by
    have a1 : p2 (-60) ≤ p2 (-40) := p2_mono (by decide)
    have a2 := Rat.mul_nonneg (Rat.le_of_lt B0) (Rat.le_of_lt (p2_pos (-45)))
    grind
  have k5 := sq_le hp.fN hp.nonneg k4 c0 k3
  obtain ⟨q1, q2, _⟩ := sq_val hp.fN hp.nonneg k4
  have q3 := (sqF_pos hp k4).1
  have c1 : p2 (-60) ≤ B * (1 + p2 (-45)) * (1 + p2 (-40)) := by
    have a2 := Rat.mul_nonneg (show 0 ≤ B * (1 + p2 (-45)) by have := p2_pos (-60); grind) (Rat.le_of_lt (p2_pos (-40)))
    grind
  have c2 : B * (1 + p2 (-45)) * (1 + p2 (-40)) ≤ p2 60 := by
    have a1 : (1 + p2 (-45)) * (1 + p2 (-40)) ≤ 2 := by decide +kernel
    have a2 := Rat.mul_le_mul_of_nonneg_left a1 (Rat.le_of_lt B0)
    have a3 : p2 40 * 2 ≤ p2 60 := by decide +kernel
    generalize p2 40 = w at *
    generalize p2 60 = w' at *
    grind
  obtain ⟨z1, z2, z3⟩ := nw_le q3.fN q3.nonneg c1 c2 k5
  refine ⟨z1, hl.fN, hl.nonneg, Rat.le_trans z3 ?_⟩
  have a1 : (1 + p2 (-45)) * (1 + p2 (-40)) * (1 + p2 (-23)) ≤ 1 + p2 (-20) := by decide +kernel
  have a2 := Rat.mul_le_mul_of_nonneg_left a1 (Rat.le_of_lt B0)
  grind
theorem longF_le {d : C2} {B : Rat} (hd : fC d) (hn : N (cv d) ≤ B) (h1 : p2 (-40) ≤ B) (h2 : B ≤ p2 40) : fit1 (sqF (powerF d)) ∧ fN .f32 (longF d) = true ∧ 0 ≤ vN .f32 (longF d) ∧ vN .f32 (longF d) ≤ B * (1 + p2 (-20)) :=
  longF_le2 hd (Rat.le_trans hn h2) (Rat.le_trans (sqN_le (cv d)) (mul_le hn hn (N_nonneg _) (by have := p2_pos (-40); grind))) h1 h2
/-- A length is at least a part, nearly. -/
theorem longF_ge {d : C2} {B c : Rat} (hd : fC d) (hn : N (cv d) ≤ B) (h2 : B ≤ p2 40) (hc : p2 (-40) ≤ c) (hs : c * c ≤ sqN (cv d)) : c * (1 - p2 (-20)) ≤ vN .f32 (longF d) := by
  have hp := powerF_pos hd (Rat.le_trans hn (p44 h2))
  obtain ⟨w1, w2⟩ := powerF_ok hd (lt_of_p2 (Rat.le_trans hn h2) (by decide))
  have s0 := sqN_nonneg (cv d)
  have s1 := sqN_le (cv d)
  have c0 : 0 < c := by have := p2_pos (-40); grind
  have hcc : 0 ≤ c * c := Rat.le_of_lt (Rat.mul_pos c0 c0)
  have s2 : sqN (cv d) ≤ p2 80 := by
    have := mul_le (Rat.le_trans hn h2) (Rat.le_trans hn h2) (N_nonneg _) (Rat.le_of_lt (p2_pos 40))
    rw [← p2_add] at this; exact Rat.le_trans s1 this
  rw [A_of_nonneg s0] at w2
  have g := le_A (vN .f64 (powerF d) - sqN (cv d))
  have v1 : p2 (-53) ≤ 1 := p2_small (by decide)
  have k0 := Rat.mul_le_mul_of_nonneg_right hs (show 0 ≤ 1 - p2 (-53) by grind)
  have k2 : p2 (-1075) ≤ p2 (-53) * (c * c) := by
    have a1 : p2 (-40) * p2 (-40) ≤ c * c := mul_le hc hc (Rat.le_of_lt (p2_pos _)) (Rat.le_of_lt c0)
    have a2 := Rat.mul_le_mul_of_nonneg_left a1 (Rat.le_of_lt (p2_pos (-53)))
    have a3 : p2 (-1075) ≤ p2 (-53) * (p2 (-40) * p2 (-40)) := by rw [← p2_add, ← p2_add]; exact p2_mono (by decide)
    grind
  have k3 : (c * (1 - p2 (-45))) * (c * (1 - p2 (-45))) ≤ vN .f64 (powerF d) := by
    have e : (c * (1 - p2 (-45))) * (c * (1 - p2 (-45))) = c * c - (p2 (-45) + p2 (-45) - p2 (-45) * p2 (-45)) * (c * c) := by grind
    have a1 : p2 (-53) + p2 (-53) ≤ p2 (-45) + p2 (-45) - p2 (-45) * p2 (-45) := by decide +kernel
    have a2 := Rat.mul_le_mul_of_nonneg_right a1 hcc
    rw [e]
    have a3 : c * c * (1 - p2 (-53)) = c * c - p2 (-53) * (c * c) := by grind
    have a4 : (p2 (-53) + p2 (-53)) * (c * c) = p2 (-53) * (c * c) + p2 (-53) * (c * c) := by grind
    rw [a3] at k0
    rw [a4] at a2
    generalize (p2 (-45) + p2 (-45) - p2 (-45) * p2 (-45)) * (c * c) = t1 at *
    generalize p2 (-53) * (c * c) = t2 at *
    generalize p2 (-53) = v at *
    generalize p2 (-1075) = t at *
    clear e a1 a3 a4 hc hs hn h2
    grind
  have k4 : vN .f64 (powerF d) ≤ p2 90 := by
    have a1 : p2 (-53) * sqN (cv d) ≤ 1 * sqN (cv d) := Rat.mul_le_mul_of_nonneg_right v1 s0
    have a2 : p2 80 + p2 80 + 1 ≤ p2 90 := by decide +kernel
    have a3 : p2 (-1075) ≤ 1 := p2_small (by decide)
    generalize p2 (-53) = v at *
    generalize p2 (-1075) = t at *
    generalize p2 90 = w at *
    generalize p2 80 = w' at *
    clear k0 k2 k3 hc
    grind
  have c1 : p2 (-60) ≤ c * (1 - p2 (-45)) := by
    have a1 : p2 (-60) ≤ p2 (-40) * (1 - p2 (-45)) := by decide +kernel
    have a2 := Rat.mul_le_mul_of_nonneg_right hc (show 0 ≤ 1 - p2 (-45) by decide +kernel)
    grind
  have k5 := sq_ge hp.fN hp.nonneg k4 c1 k3
  obtain ⟨q1, q2, x, x0, x1, _, x3⟩ := sq_val hp.fN hp.nonneg k4
  have q4 : vN .f64 (sqF (powerF d)) ≤ p2 60 := by
    have a1 := le_A (vN .f64 (sqF (powerF d)) - x)
    have a2 : p2 (-53) * x ≤ 1 * x := Rat.mul_le_mul_of_nonneg_right v1 x0
    have a3 : p2 46 + p2 46 + 1 ≤ p2 60 := by decide +kernel
    have a4 : p2 (-1075) ≤ 1 := p2_small (by decide)
    generalize p2 (-53) = v at *
    generalize p2 (-1075) = t at *
    generalize p2 46 = w at *
    generalize p2 60 = w' at *
    clear k0 k2 k3 k4 k5 hc c1
    grind
  have c2 : p2 (-60) ≤ c * (1 - p2 (-45)) * (1 - p2 (-40)) := by
    have a1 : p2 (-60) ≤ p2 (-40) * ((1 - p2 (-45)) * (1 - p2 (-40))) := by decide +kernel
    have a2 := Rat.mul_le_mul_of_nonneg_right hc (show 0 ≤ (1 - p2 (-45)) * (1 - p2 (-40)) by decide +kernel)
    grind
  obtain ⟨_, _, z3, _⟩ := nw_near q1 c2 (Rat.le_refl (a := p2 60)) k5 q4
  refine Rat.le_trans ?_ z3
  have a1 : 1 - p2 (-20) ≤ (1 - p2 (-45)) * (1 - p2 (-40)) * (1 - p2 (-23)) := by decide +kernel
  have a2 := Rat.mul_le_mul_of_nonneg_left a1 (Rat.le_of_lt c0)
  grind
/-- What is below 1 / 100, is not told to be above it. -/
theorem below_cent2 {d : C2} (hd : fC d) (hn : N (cv d) ≤ p2 40) (hs : sqN (cv d) ≤ 19 / 2000 * (19 / 2000)) : fit1 (sqF (powerF d)) ∧ fcmp .gtr .f64 (wd (longF d)) 4576918229304087675 = false := by
  obtain ⟨a, b, c, e⟩ := longF_le2 hd hn hs (by decide +kernel) (by decide +kernel)
  refine ⟨a, ?_⟩
  obtain ⟨w1, w2⟩ := wd_ok b (by rw [A_of_nonneg c]; exact lt_of_p2 (a := 1) (Rat.le_trans e (by decide +kernel)) (by decide))
  have hf : fN .f64 4576918229304087675 = true := by decide +kernel
  rw [cmp_gtr w1 hf, w2]
  simp only [decide_eq_false_iff_not]
  have hv : 19 / 2000 * (1 + p2 (-20)) ≤ vN .f64 4576918229304087675 := by decide +kernel
  grind
theorem below_cent {d : C2} (hd : fC d) (hn : N (cv d) ≤ 19 / 2000) : fit1 (sqF (powerF d)) ∧ fcmp .gtr .f64 (wd (longF d)) 4576918229304087675 = false :=
  below_cent2 hd (Rat.le_trans hn (by decide +kernel)) (Rat.le_trans (sqN_le (cv d)) (mul_le hn hn (N_nonneg _) (by decide +kernel)))
/-- The digits of a number, normal. -/
theorem digits2 {x : Nat} (h : fN .f64 x = true) : ∃ (s : Bool) (m : Nat) (e : Int), FloatKind.f64.decode x = .number s m e ∧ m < 2 ^ 53 ∧ -1074 ≤ e ∧ (-1074 < e → 2 ^ 52 ≤ m) := by
  obtain ⟨s, m, e, hd⟩ := isNum_ex h
  refine ⟨s, m, e, hd, ?_⟩
  have e2 : Ieee.double.binade = 2 ^ 52 := double_facts.2.1
  have e3 : Ieee.double.leastPlace = -1074 := double_facts.2.2.2.1
  have hd' : Ieee.double.read x = .number s m e := hd
  unfold Ieee.Format.read at hd'
  dsimp only at hd'
  have hml := Nat.mod_lt (x % Ieee.double.signWeight) (show 0 < Ieee.double.binade by rw [e2]; decide)
  split at hd'
  · rename_i h1
    cases hd'
    rw [e2] at h1
    rw [e3]
    exact ⟨by omega, by omega, by omega⟩
  · split at hd'
    · cases hd'
      rw [e2, e3] at *
      exact ⟨by omega, by omega, by omega⟩
    · split at hd' <;> cases hd'
/-- Two numbers of one value that are not below 0 are the same. -/
theorem Pos.same {x y : Nat} (hx : Pos .f64 x) (hy : Pos .f64 y) (h : vN .f64 x = vN .f64 y) : FloatKind.f64.decode x = FloatKind.f64.decode y := by
  obtain ⟨s, m, e, h1, h2, h3, h4⟩ := digits2 hx.fN
  obtain ⟨t, n, j, g1, g2, g3, g4⟩ := digits2 hy.fN
  obtain ⟨M, P, a⟩ := hx
  obtain ⟨M', P', b⟩ := hy
  rw [a] at h1
  rw [b] at g1
  cases h1
  cases g1
  unfold vN at h
  rw [a, b] at h ⊢
  have h' : (m : Rat) * p2 e = (n : Rat) * p2 j := h
  rcases Int.lt_trichotomy e j with he | he | he
  · exfalso
    have k1 : p2 j = ((2 ^ (j - e).toNat : Nat) : Rat) * p2 e := by rw [← p2_toNat (by omega), ← p2_add]; congr 1; omega
    have k2 : (m : Rat) * p2 e = ((n * 2 ^ (j - e).toNat : Nat) : Rat) * p2 e := by rw [h', k1, Rat.natCast_mul]; grind
    have k3 : m = n * 2 ^ (j - e).toNat := by exact_mod_cast rcancel (p2_pos e) k2
    have k4 : 2 ^ 1 ≤ 2 ^ (j - e).toNat := Nat.pow_le_pow_right (by decide) (by omega)
    have k5 := Nat.mul_le_mul (g4 (by omega)) k4
    omega
  · subst he
    have : m = n := by exact_mod_cast rcancel (p2_pos e) h'
    rw [this]
  · exfalso
    have k1 : p2 e = ((2 ^ (e - j).toNat : Nat) : Rat) * p2 j := by rw [← p2_toNat (by omega), ← p2_add]; congr 1; omega
    have k2 : (n : Rat) * p2 j = ((m * 2 ^ (e - j).toNat : Nat) : Rat) * p2 j := by rw [← h', k1, Rat.natCast_mul]; grind
    have k3 : n = m * 2 ^ (e - j).toNat := by exact_mod_cast rcancel (p2_pos j) k2
    have k4 : 2 ^ 1 ≤ 2 ^ (e - j).toNat := Nat.pow_le_pow_right (by decide) (by omega)
    have k5 := Nat.mul_le_mul (h4 (by omega)) k4
    omega
theorem fadd_congr {a b a' b' : Nat} (h1 : FloatKind.f64.decode a = FloatKind.f64.decode a') (h2 : FloatKind.f64.decode b = FloatKind.f64.decode b') : fop .add .f64 a b = fop .add .f64 a' b' := by
  unfold fop floatBits Ieee.Format.add
  dsimp only
  rw [show FloatKind.f64.format.read a = FloatKind.f64.format.read a' from h1, show FloatKind.f64.format.read b = FloatKind.f64.format.read b' from h2]
/-- A length hangs on the value alone. -/
theorem long_congr {d d' : C2} (hd : fC d) (hd' : fC d') (h : cv d = cv d') (hn : N (cv d) ≤ p2 44) : longF d = longF d' := by
  have part : ∀ {x y : Nat}, fN .f32 x = true → fN .f32 y = true → vN .f32 x = vN .f32 y → A (vN .f32 x) ≤ p2 44 → FloatKind.f64.decode (fop .mul .f64 (wd x) (wd x)) = FloatKind.f64.decode (fop .mul .f64 (wd y) (wd y)) := by
    intro x y hx hy hxy ha
    have m1 : A (vN .f32 x) < p2 200 := lt_of_p2 ha (by decide)
    have m2 : A (vN .f32 x) < p2 1023 := lt_of_p2 ha (by decide)
    obtain ⟨x1, x2⟩ := wd_ok hx m2
    obtain ⟨y1, y2⟩ := wd_ok hy (by rw [← hxy]; exact m2)
    obtain ⟨_, a1⟩ := prod_exact hx hx m1 m1
    obtain ⟨_, a2⟩ := prod_exact hy hy (by rw [← hxy]; exact m1) (by rw [← hxy]; exact m1)
    have m3 : A (vN .f32 x * vN .f32 x) < p2 1023 := by
      rw [A_mul]
      have := mul_le ha ha (A_nonneg _) (Rat.le_of_lt (p2_pos 44))
      rw [← p2_add] at this
      exact lt_of_p2 this (by decide)
    exact Pos.same (mul_pos x1 (by rw [x2]; exact m3)) (mul_pos y1 (by rw [y2, ← hxy]; exact m3)) (by rw [a1, a2, hxy])
  have a1 : A (vN .f32 d.1) ≤ N (cv d) := re_le_N (cv d)
  have a2 : A (vN .f32 d.2) ≤ N (cv d) := im_le_N (cv d)
  have e1' := part hd.1 hd'.1 (congrArg Q2.re h) (Rat.le_trans a1 hn)
  have e2' := part hd.2 hd'.2 (congrArg Q2.im h) (Rat.le_trans a2 hn)
  have : powerF d = powerF d' := fadd_congr e1' e2'
  unfold longF
  rw [this]
end Go.Proofs.Ytklonahkacikbaa
