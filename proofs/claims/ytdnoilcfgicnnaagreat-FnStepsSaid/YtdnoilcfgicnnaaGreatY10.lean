/- The values of Ieee's words as rational numbers, and what rounding does to them. Conditions: the number does not pass the format's greatest. -/
import Derived.Test.YtdnoilcfgicnnaaGreatY1
import Derived.Test.YtdnoilcfgicnnaaGreatY2
import Derived.Test.YtdnoilcfgicnnaaGreatY3
namespace Go.Proofs.YtdnoilcfgicnnaaGreat
set_option linter.unusedSimpArgs false
set_option linter.unusedVariables false
open Go

/-- Powers of two. -/
def p2 (e : Int) : Rat := (2 : Rat) ^ e
theorem p2_add (a b : Int) : p2 (a + b) = p2 a * p2 b := Rat.zpow_add (by decide) a b
theorem p2_pos (a : Int) : 0 < p2 a := Rat.zpow_pos (by decide)
theorem p2_zero : p2 0 = 1 := by unfold p2; rfl
theorem p2_nat (n : Nat) : p2 (n : Int) = ((2 ^ n : Nat) : Rat) := by
  unfold p2
  rw [Rat.zpow_natCast, Rat.natCast_pow]
  rfl
theorem p2_neg (a : Int) : p2 a * p2 (-a) = 1 := by rw [← p2_add, Int.add_right_neg, p2_zero]
theorem one_le_p2 (n : Nat) : 1 ≤ p2 (n : Int) := by
  rw [p2_nat]
  have : 1 ≤ 2 ^ n := Nat.one_le_two_pow
  exact_mod_cast this
theorem p2_mono {a b : Int} (h : a ≤ b) : p2 a ≤ p2 b := by
  have e : b = a + ((b - a).toNat : Int) := by omega
  rw [e, p2_add]
  have h1 := one_le_p2 (b - a).toNat
  have h2 := p2_pos a
  have := Rat.mul_le_mul_of_nonneg_left h1 (Rat.le_of_lt h2)
  grind
theorem p2_toNat {a : Int} (h : 0 ≤ a) : p2 a = ((2 ^ a.toNat : Nat) : Rat) := by
  have := p2_nat a.toNat
  rw [Int.toNat_of_nonneg h] at this
  exact this

theorem rcancel {a b c : Rat} (hc : 0 < c) (h : a * c = b * c) : a = b := by
  have h1 : c * c⁻¹ = 1 := Rat.mul_inv_cancel c (by intro h0; rw [h0] at hc; exact absurd hc (by decide))
  have h2 : a * c * c⁻¹ = b * c * c⁻¹ := by rw [h]
  grind

theorem cut_even (s : Bool) (n drop : Nat) :
    2 * (Ieee.Toward.even.cut s n drop * 2 ^ drop) ≤ 2 * n + 2 ^ drop ∧ 2 * n ≤ 2 * (Ieee.Toward.even.cut s n drop * 2 ^ drop) + 2 ^ drop ∧ (2 ^ drop ∣ n → Ieee.Toward.even.cut s n drop * 2 ^ drop = n) := by
  unfold Ieee.Toward.cut
  by_cases h : drop ≤ n.log2 + 2
  · rw [Nat.min_eq_left h, Nat.one_shiftLeft]
    dsimp only
    have hg : 0 < 2 ^ drop := Nat.two_pow_pos drop
    have hd := Nat.div_add_mod n (2 ^ drop)
    have hm := Nat.mod_lt n hg
    generalize hq : n / 2 ^ drop = low at *
    generalize hr : n % 2 ^ drop = rest at *
    rw [Nat.dvd_iff_mod_eq_zero, hr]
    generalize 2 ^ drop = g at *
    rw [Nat.add_mul, Nat.mul_comm low g]
    generalize g * low = p at *
    by_cases h1 : g < 2 * rest
    · simp only [h1, decide_true, Bool.true_or, Bool.toNat_true]
      omega
    · by_cases h2 : g = 2 * rest
      · simp only [h2]
        cases hb : (low % 2 == 1) <;> simp <;> omega
      · have h3 : (g == 2 * rest) = false := by simpa using h2
        simp only [h1, h3, decide_false, Bool.false_and, Bool.or_false, Bool.toNat_false]
        omega
  · have hl : n < 2 ^ (n.log2 + 1) := Nat.lt_log2_self
    have hl2 : (2 : Nat) ^ (n.log2 + 2) = 2 * 2 ^ (n.log2 + 1) := by rw [Nat.pow_succ]; omega
    have hl3 : (2 : Nat) ^ (n.log2 + 2) ≤ 2 ^ drop := Nat.pow_le_pow_right (by decide) (by omega)
    rw [Nat.min_eq_right (by omega), Nat.one_shiftLeft]
    dsimp only
    rw [Nat.div_eq_of_lt (by omega), Nat.mod_eq_of_lt (by omega)]
    have h1 : ¬ (2 ^ (n.log2 + 2) < 2 * n) := by omega
    have h3 : (2 ^ (n.log2 + 2) == 2 * n) = false := by simp; omega
    simp only [h1, h3, decide_false, Bool.false_and, Bool.or_false, Bool.toNat_false]
    refine ⟨by omega, by omega, fun hd => ?_⟩
    have := Nat.eq_zero_of_dvd_of_lt hd (by omega)
    omega

/-- What a datum is worth; 0 where it is no number. -/
def sg (neg : Bool) (q : Rat) : Rat := if neg then -q else q
def valD : Ieee.Datum → Rat
  | .number s m e => sg s ((m : Rat) * p2 e)
  | _ => 0
def isNum : Ieee.Datum → Bool
  | .number .. => true
  | _ => false

/-- Rounding: what is kept, and where. -/
structure Rounds (f : Ieee.Format) (s : Bool) (m : Nat) (e : Int) : Prop where
  ex : ∃ (M : Nat) (P : Int) (c : Nat) (last : Int), f.read (f.nearest s m e) = .number s M P ∧ (M : Rat) * p2 P = (c : Rat) * p2 last ∧
    last = max (e + m.log2 - f.fractionBits) f.leastPlace ∧
    2 * ((c : Rat) * p2 last) ≤ 2 * ((m : Rat) * p2 e) + p2 last ∧ 2 * ((m : Rat) * p2 e) ≤ 2 * ((c : Rat) * p2 last) + p2 last ∧
    ((∃ (m' : Nat) (e' : Int), (m : Rat) * p2 e = (m' : Rat) * p2 e' ∧ last ≤ e') → (c : Rat) * p2 last = (m : Rat) * p2 e)

theorem read_word_num (f : Ieee.Format) (s : Bool) {r : Nat} (hr : r < f.infRung) (hsw : f.infRung < f.signWeight) :
    f.read (f.word s r) = if r < f.binade then .number s r f.leastPlace else .number s (f.binade + r % f.binade) (f.leastPlace + (r / f.binade - 1 : Nat)) := by
  have hw : 0 < f.signWeight := by omega
  have h1 : f.word s r % f.signWeight = r := by
    unfold Ieee.Format.word
    split
    · rw [Nat.add_mod_left, Nat.mod_eq_of_lt (by omega)]
    · rw [Nat.mod_eq_of_lt (by omega)]
  have h2 : (f.word s r / f.signWeight % 2 == 1) = s := by
    unfold Ieee.Format.word
    cases s
    · simp [Nat.div_eq_of_lt (show r < f.signWeight by omega)]
    · simp [Nat.add_div_left _ hw, Nat.div_eq_of_lt (show r < f.signWeight by omega)]
  unfold Ieee.Format.read
  simp only [h1, h2]
  split
  · rfl
  · rfl


theorem nearest_rounds (f : Ieee.Format) (hsw : f.infRung < f.signWeight) (h4 : 4 ≤ 2 ^ f.exponentBits) (s : Bool) (m : Nat) (e : Int) (hm : m ≠ 0)
    (hlt : e + (m.log2 : Int) - (f.fractionBits : Int) - f.leastPlace + 3 < ((2 ^ f.exponentBits : Nat) : Int)) : Rounds f s m e := by
  have hir : f.infRung = (2 ^ f.exponentBits - 1) * f.binade := rfl
  have hbn : f.binade = 2 ^ f.fractionBits := rfl
  have hb0 : 0 < f.binade := by rw [hbn]; exact Nat.two_pow_pos _
  have hm1 : m < 2 ^ (m.log2 + 1) := Nat.lt_log2_self
  have hm2 : 2 ^ m.log2 ≤ m := Nat.log2_self_le hm
  have hN : f.nearest s m e = f.word s (min ((max (e + (m.log2 : Int) - (f.fractionBits : Int)) f.leastPlace - f.leastPlace).toNat * f.binade + Ieee.Toward.even.cut s (m <<< (e - max (e + (m.log2 : Int) - (f.fractionBits : Int)) f.leastPlace).toNat) (max (e + (m.log2 : Int) - (f.fractionBits : Int)) f.leastPlace - e).toNat) f.infRung) := by
    unfold Ieee.Format.nearest
    rw [if_neg hm]
  have hl0 : max (e + (m.log2 : Int) - (f.fractionBits : Int)) f.leastPlace = max (e + (m.log2 : Int) - (f.fractionBits : Int)) f.leastPlace := rfl
  generalize hlast : max (e + (m.log2 : Int) - (f.fractionBits : Int)) f.leastPlace = last at hN
  have hge : f.leastPlace ≤ last := by omega
  have hge2 : e + (m.log2 : Int) - (f.fractionBits : Int) ≤ last := by omega
  -- what is kept
  obtain ⟨kept, hkept, hk1, hk2, hk3, hk4, hk5⟩ : ∃ kept, Ieee.Toward.even.cut s (m <<< (e - last).toNat) (last - e).toNat = kept ∧
      kept ≤ 2 * f.binade ∧ (f.leastPlace < last → f.binade ≤ kept) ∧
      2 * ((kept : Rat) * p2 last) ≤ 2 * ((m : Rat) * p2 e) + p2 last ∧ 2 * ((m : Rat) * p2 e) ≤ 2 * ((kept : Rat) * p2 last) + p2 last ∧
      ((∃ (m' : Nat) (e' : Int), (m : Rat) * p2 e = (m' : Rat) * p2 e' ∧ last ≤ e') → (kept : Rat) * p2 last = (m : Rat) * p2 e) := by
    refine ⟨_, rfl, ?_⟩
    by_cases h : last ≤ e
    · have hd : (last - e).toNat = 0 := by omega
      have cz : ∀ n, Ieee.Toward.even.cut s n 0 = n := fun n => by
        have := (cut_even s n 0).2.2 (by simp)
        simpa using this
      rw [hd, cz, Nat.shiftLeft_eq]
      have hp : ((m * 2 ^ (e - last).toNat : Nat) : Rat) * p2 last = (m : Rat) * p2 e := by
        have h1 : p2 e = ((2 ^ (e - last).toNat : Nat) : Rat) * p2 last := by rw [← p2_toNat (by omega), ← p2_add]; congr 1; omega
        rw [h1, Rat.natCast_mul]; grind
      have hpos := p2_pos last
      refine ⟨?_, fun hl => ?_, by rw [hp]; grind, by rw [hp]; grind, fun _ => hp⟩
      · have : m * 2 ^ (e - last).toNat ≤ 2 ^ (m.log2 + 1) * 2 ^ (e - last).toNat := Nat.mul_le_mul_right _ (Nat.le_of_lt hm1)
        have h2 : 2 ^ (m.log2 + 1) * 2 ^ (e - last).toNat ≤ 2 ^ (f.fractionBits + 1) := by rw [← Nat.pow_add]; exact Nat.pow_le_pow_right (by decide) (by omega)
        have h3 : 2 ^ (f.fractionBits + 1) = 2 * f.binade := by rw [hbn, Nat.pow_succ]; omega
        omega
      · have h2 : 2 ^ m.log2 * 2 ^ (e - last).toNat = f.binade := by rw [← Nat.pow_add, hbn]; congr 1; omega
        have := Nat.mul_le_mul_right (2 ^ (e - last).toNat) hm2
        omega
    · have hz : (e - last).toNat = 0 := by omega
      rw [hz, Nat.shiftLeft_zero]
      obtain ⟨c1, c2, c3⟩ := cut_even s m (last - e).toNat
      generalize Ieee.Toward.even.cut s m (last - e).toNat = c at *
      have hp : p2 last = ((2 ^ (last - e).toNat : Nat) : Rat) * p2 e := by rw [← p2_toNat (by omega), ← p2_add]; congr 1; omega
      have hpe := p2_pos e
      have hcp : (c : Rat) * p2 last = ((c * 2 ^ (last - e).toNat : Nat) : Rat) * p2 e := by rw [hp, Rat.natCast_mul]; grind
      have hg : 0 < 2 ^ (last - e).toNat := Nat.two_pow_pos _
      refine ⟨?_, fun hl => ?_, ?_, ?_, ?_⟩
      · have h1 : 2 ^ (m.log2 + 1) ≤ 2 ^ (f.fractionBits + 1) * 2 ^ (last - e).toNat := by rw [← Nat.pow_add]; exact Nat.pow_le_pow_right (by decide) (by omega)
        have h3 : 2 ^ (f.fractionBits + 1) = 2 * f.binade := by rw [hbn, Nat.pow_succ]; omega
        rw [h3] at h1
        generalize 2 ^ (last - e).toNat = g at *
        rcases Nat.lt_or_ge (2 * f.binade) c with hc | hc
        · have := Nat.mul_le_mul_right g (show 2 * f.binade + 1 ≤ c from hc)
          rw [Nat.add_mul] at this
          omega
        · exact hc
      · have h1 : f.binade * 2 ^ (last - e).toNat ≤ m := by
          refine Nat.le_trans (Nat.le_of_eq ?_) hm2
          rw [hbn, ← Nat.pow_add]; congr 1; omega
        generalize 2 ^ (last - e).toNat = g at *
        rcases Nat.lt_or_ge c f.binade with hc | hc
        · have := Nat.mul_le_mul_right g (show c + 1 ≤ f.binade from hc)
          rw [Nat.add_mul] at this
          omega
        · exact hc
      · rw [hcp, hp]
        have h1 : 2 * ((c * 2 ^ (last - e).toNat : Nat) : Rat) ≤ 2 * (m : Rat) + ((2 ^ (last - e).toNat : Nat) : Rat) := by exact_mod_cast c1
        have := Rat.mul_le_mul_of_nonneg_right h1 (Rat.le_of_lt hpe)
        grind
      · rw [hcp, hp]
        have h1 : 2 * (m : Rat) ≤ 2 * ((c * 2 ^ (last - e).toNat : Nat) : Rat) + ((2 ^ (last - e).toNat : Nat) : Rat) := by exact_mod_cast c2
        have := Rat.mul_le_mul_of_nonneg_right h1 (Rat.le_of_lt hpe)
        grind
      · rintro ⟨m', e', h1, h2⟩
        rw [hcp]
        have h3 : p2 e' = ((2 ^ (e' - e).toNat : Nat) : Rat) * p2 e := by rw [← p2_toNat (by omega), ← p2_add]; congr 1; omega
        have h4 : (m : Rat) * p2 e = ((m' * 2 ^ (e' - e).toNat : Nat) : Rat) * p2 e := by rw [h1, h3, Rat.natCast_mul]; grind
        have h5 : (m : Rat) = ((m' * 2 ^ (e' - e).toNat : Nat) : Rat) := rcancel hpe h4
        have h6 : m = m' * 2 ^ (e' - e).toNat := by exact_mod_cast h5
        have h7 : 2 ^ (last - e).toNat ∣ m := by
          rw [h6]
          exact Nat.dvd_trans (Nat.pow_dvd_pow 2 (by omega)) (Nat.dvd_mul_left _ _)
        rw [c3 h7]
  rw [hkept] at hN
  -- the rung
  obtain ⟨T, hT⟩ : ∃ T : Nat, last = f.leastPlace + (T : Int) := ⟨(last - f.leastPlace).toNat, by omega⟩
  have hTn : (last - f.leastPlace).toNat = T := by omega
  rw [hTn] at hN
  have hTE : T + 3 < 2 ^ f.exponentBits := by
    have h5 : (T : Int) + 3 < ((2 ^ f.exponentBits : Nat) : Int) := by
      have h6 : (4 : Int) ≤ ((2 ^ f.exponentBits : Nat) : Int) := by exact_mod_cast h4
      omega
    exact_mod_cast h5
  have hr : T * f.binade + kept < f.infRung := by
    rw [hir]
    have h1 : (T + 3) * f.binade ≤ (2 ^ f.exponentBits - 1) * f.binade := Nat.mul_le_mul_right _ (by omega)
    rw [Nat.add_mul] at h1
    omega
  rw [Nat.min_eq_left (Nat.le_of_lt hr)] at hN
  have hread := read_word_num f s hr hsw
  rw [← hN] at hread
  have hTl : ∀ {x : Nat}, 0 < T → f.binade ≤ kept := fun h => hk2 (by omega)
  by_cases h1 : T * f.binade + kept < f.binade
  · rw [if_pos h1] at hread
    have h0 : T = 0 := by
      rcases Nat.eq_zero_or_pos T with h | h
      · exact h
      · have := Nat.mul_le_mul_right f.binade (show 1 ≤ T from h); omega
    subst h0
    refine ⟨_, _, kept, last, hread, ?_, hlast.symm, hk3, hk4, hk5⟩
    rw [hT]; simp
  · rw [if_neg h1] at hread
    have hkb : f.binade ≤ kept := by
      rcases Nat.eq_zero_or_pos T with h | h
      · subst h; omega
      · exact hk2 (by omega)
    rcases Nat.lt_or_ge kept (2 * f.binade) with h2 | h2
    · have e1 : T * f.binade + kept = (kept - f.binade) + f.binade * (T + 1) := by rw [Nat.mul_add, Nat.mul_comm f.binade T]; omega
      have e2 : (T * f.binade + kept) % f.binade = kept - f.binade := by rw [e1, Nat.add_mul_mod_self_left, Nat.mod_eq_of_lt (by omega)]
      have e3 : (T * f.binade + kept) / f.binade = T + 1 := by rw [e1, Nat.add_mul_div_left _ _ hb0, Nat.div_eq_of_lt (by omega)]; omega
      rw [e2, e3] at hread
      refine ⟨_, _, kept, last, hread, ?_, hlast.symm, hk3, hk4, hk5⟩
      rw [hT, show f.binade + (kept - f.binade) = kept by omega]; simp
    · have hk : kept = 2 * f.binade := by omega
      have e1 : T * f.binade + kept = 0 + f.binade * (T + 2) := by rw [Nat.mul_add, Nat.mul_comm f.binade T]; omega
      have e2 : (T * f.binade + kept) % f.binade = 0 := by rw [e1, Nat.add_mul_mod_self_left, Nat.zero_mod]
      have e3 : (T * f.binade + kept) / f.binade = T + 2 := by rw [e1, Nat.add_mul_div_left _ _ hb0, Nat.zero_div]; omega
      rw [e2, e3] at hread
      refine ⟨_, _, kept, last, hread, ?_, hlast.symm, hk3, hk4, hk5⟩
      have h3 : f.leastPlace + ((T + 2 - 1 : Nat) : Int) = 1 + last := by omega
      rw [h3, hk, p2_add, Rat.natCast_mul, show p2 1 = 2 from rfl, Nat.add_zero, show ((2 : Nat) : Rat) = 2 from rfl]
      grind
end Go.Proofs.YtdnoilcfgicnnaaGreat

/- The operations of floats on values: sums, products, quotients, conversions, with their errors. Conditions: the result does not pass the kind's greatest number. -/
namespace Go.Proofs.YtdnoilcfgicnnaaGreat
set_option linter.unusedSimpArgs false
set_option linter.unusedVariables false
open Go

/-- Absolute values. -/
def A (x : Rat) : Rat := if 0 ≤ x then x else -x
theorem A_nonneg (x : Rat) : 0 ≤ A x := by unfold A; split <;> grind
theorem A_le {x r : Rat} : A x ≤ r ↔ x ≤ r ∧ -x ≤ r := by unfold A; split <;> grind
theorem le_A (x : Rat) : x ≤ A x ∧ -x ≤ A x := by unfold A; split <;> grind
theorem A_neg (x : Rat) : A (-x) = A x := by unfold A; split <;> split <;> grind
theorem A_zero : A 0 = 0 := rfl
theorem A_of_nonneg {x : Rat} (h : 0 ≤ x) : A x = x := if_pos h
theorem A_of_nonpos {x : Rat} (h : x ≤ 0) : A x = -x := by unfold A; split <;> grind
theorem A_add (x y : Rat) : A (x + y) ≤ A x + A y := by
  have hx := le_A x; have hy := le_A y; rw [A_le]; grind
theorem A_sub (x y : Rat) : A (x - y) ≤ A x + A y := by
  have hx := le_A x; have hy := le_A y; rw [A_le]; grind
theorem A_comm (x y : Rat) : A (x - y) = A (y - x) := by rw [← A_neg]; congr 1; grind
theorem A_mul (x y : Rat) : A (x * y) = A x * A y := by
  rcases Rat.le_total (a := 0) (b := x) with hx | hx <;> rcases Rat.le_total (a := 0) (b := y) with hy | hy
  · have := Rat.mul_nonneg hx hy
    rw [A_of_nonneg hx, A_of_nonneg hy, A_of_nonneg this]
  · have := Rat.mul_nonneg hx (show 0 ≤ -y by grind)
    rw [A_of_nonneg hx, A_of_nonpos hy, A_of_nonpos (by grind)]; grind
  · have := Rat.mul_nonneg (show 0 ≤ -x by grind) hy
    rw [A_of_nonpos hx, A_of_nonneg hy, A_of_nonpos (by grind)]; grind
  · have := Rat.mul_nonneg (show 0 ≤ -x by grind) (show 0 ≤ -y by grind)
    rw [A_of_nonpos hx, A_of_nonpos hy, A_of_nonneg (by grind)]; grind
theorem A_eq_zero {x : Rat} (h : A x = 0) : x = 0 := by have := le_A x; grind
theorem A_pos {x : Rat} (h : x ≠ 0) : 0 < A x := by have := le_A x; grind
theorem A_sg (s : Bool) (x : Rat) : A (sg s x) = A x := by cases s <;> simp [sg, A_neg]
theorem mul_le {a b c d : Rat} (h1 : a ≤ b) (h2 : c ≤ d) (h3 : 0 ≤ c) (h4 : 0 ≤ b) : a * c ≤ b * d :=
  Rat.le_trans (Rat.mul_le_mul_of_nonneg_right h1 h3) (Rat.mul_le_mul_of_nonneg_left h2 h4)

/-- The kinds' numbers: the relative error, the absolute one, and what no number may reach. -/
def uK : FloatKind → Rat | .f32 => p2 (-24) | .f64 => p2 (-53)
def eK : FloatKind → Rat | .f32 => p2 (-150) | .f64 => p2 (-1075)
def tK : FloatKind → Rat | .f32 => p2 127 | .f64 => p2 1023
def bK : FloatKind → Nat | .f32 => 24 | .f64 => 53
def lK : FloatKind → Int | .f32 => -149 | .f64 => -1074
def fN (k : FloatKind) (x : Nat) : Bool := isNum (k.decode x)
def vN (k : FloatKind) (x : Nat) : Rat := valD (k.decode x)

theorem fN_not_nan {k : FloatKind} {x : Nat} (h : fN k x = true) : isN k x = false := by
  unfold fN at h; unfold isN
  cases hd : k.decode x <;> simp [hd, isNum, Ieee.Datum.isNaN] at h ⊢
theorem fN_nrm {k : FloatKind} {x : Nat} (h : fN k x = true) : nrm k x = x := nrm_of_not (fN_not_nan h)
theorem isNum_ex {d : Ieee.Datum} (h : isNum d = true) : ∃ s m e, d = .number s m e := by
  cases d <;> simp [isNum] at h ⊢
theorem A_val (s : Bool) (m : Nat) (e : Int) : A (valD (.number s m e)) = (m : Rat) * p2 e := by
  have h : (0 : Rat) ≤ (m : Rat) * p2 e := Rat.mul_nonneg (by exact_mod_cast Nat.zero_le m) (Rat.le_of_lt (p2_pos e))
  show A (sg s _) = _
  rw [A_sg, A_of_nonneg h]

theorem p2_lt {a b : Int} (h : p2 a < p2 b) : a < b := by
  rcases Int.lt_or_le a b with h1 | h1
  · exact h1
  · have := p2_mono h1; grind
theorem format_facts (k : FloatKind) : k.format.infRung < k.format.signWeight ∧ 4 ≤ 2 ^ k.format.exponentBits ∧ (k.format.fractionBits : Int) = bK k - 1 ∧ k.format.leastPlace = lK k := by
  cases k
  · have h := single_facts
    exact ⟨by rw [show FloatKind.f32.format = Ieee.single from rfl, h.1, h.2.2.1]; decide, by decide, rfl, h.2.2.2⟩
  · have h := double_facts
    exact ⟨by rw [show FloatKind.f64.format = Ieee.double from rfl, h.1, h.2.2.1]; decide, by decide, rfl, h.2.2.2.1⟩

/-- A number written and read: its error, and that there is none where the number has few digits. -/
theorem write_ok (k : FloatKind) (d : Ieee.Datum) (hd : isNum d = true) (ht : A (valD d) < tK k) :
    fN k (k.encode d) = true ∧ A (vN k (k.encode d) - valD d) ≤ uK k * A (valD d) + eK k ∧
    (∀ (m' : Nat) (e' : Int), A (valD d) = (m' : Rat) * p2 e' → m' < 2 ^ bK k → lK k ≤ e' → vN k (k.encode d) = valD d) ∧
    (∀ (m' : Nat) (e' : Int), A (valD d) = (m' : Rat) * p2 e' → m' < 2 ^ bK k → lK k ≤ e' → A (vN k (k.encode d)) = A (valD d)) := by
  obtain ⟨s, m, e, rfl⟩ := isNum_ex hd
  rw [A_val] at ht ⊢
  obtain ⟨hsw, h4, hfb, hlp⟩ := format_facts k
  have hu : 0 < uK k := by cases k <;> exact p2_pos _
  have he : 0 < eK k := by cases k <;> exact p2_pos _
  by_cases hm : m = 0
  · subst hm
    have hr : k.decode (k.encode (.number s 0 e)) = .number s 0 k.format.leastPlace := by
      have hw : k.encode (.number s 0 e) = k.format.word s 0 := by show k.format.nearest s 0 e = _; unfold Ieee.Format.nearest; simp
      have hb0 : 0 < k.format.binade := Nat.two_pow_pos _
      have hir : 0 < k.format.infRung := by cases k <;> decide +kernel
      show k.format.read _ = _
      rw [hw, read_word_num k.format s hir hsw, if_pos hb0]
    have h0 : valD (.number s 0 e) = 0 := A_eq_zero (by rw [A_val, show ((0 : Nat) : Rat) = 0 from rfl]; grind)
    have h1 : vN k (k.encode (.number s 0 e)) = 0 := by unfold vN; rw [hr]; exact A_eq_zero (by rw [A_val, show ((0 : Nat) : Rat) = 0 from rfl]; grind)
    refine ⟨by unfold fN; rw [hr]; rfl, ?_, fun _ _ _ _ _ => by rw [h1, h0], fun _ _ _ _ _ => by rw [h1, A_zero, show ((0 : Nat) : Rat) = 0 from rfl]; grind⟩
    rw [h1, h0, show ((0 : Nat) : Rat) = 0 from rfl, show (0 : Rat) - 0 = 0 by grind, A_zero]
    grind
  · have hlog : (2 : Nat) ^ m.log2 ≤ m := Nat.log2_self_le hm
    have hpe := p2_pos e
    have hlq : p2 ((m.log2 : Int) + e) ≤ (m : Rat) * p2 e := by
      rw [p2_add, p2_nat]
      exact Rat.mul_le_mul_of_nonneg_right (by exact_mod_cast hlog) (Rat.le_of_lt hpe)
    have hR := nearest_rounds k.format hsw h4 s m e hm (by
      rw [hfb, hlp]
      have h1 : (m.log2 : Int) + e < (match k with | .f32 => 127 | .f64 => 1023) := by
        cases k
        · exact p2_lt (b := 127) (by have : A 0 = 0 := rfl; have ht' : (m : Rat) * p2 e < p2 127 := ht; grind)
        · exact p2_lt (b := 1023) (by have : A 0 = 0 := rfl; have ht' : (m : Rat) * p2 e < p2 1023 := ht; grind)
      cases k
      · have : ((2 ^ FloatKind.f32.format.exponentBits : Nat) : Int) = 256 := by decide
        rw [this]; simp only [bK, lK] at *; omega
      · have : ((2 ^ FloatKind.f64.format.exponentBits : Nat) : Int) = 2048 := by decide
        rw [this]; simp only [bK, lK] at *; omega)
    obtain ⟨M, P, c, last, hread, hMP, hl, hc1, hc2, hc3⟩ := hR.ex
    have hdec : k.decode (k.encode (.number s m e)) = .number s M P := hread
    have hv : vN k (k.encode (.number s m e)) = sg s ((c : Rat) * p2 last) := by unfold vN; rw [hdec]; show sg s _ = _; rw [hMP]
    have hvd : valD (.number s m e) = sg s ((m : Rat) * p2 e) := rfl
    have hdiff : vN k (k.encode (.number s m e)) - valD (.number s m e) = sg s ((c : Rat) * p2 last - (m : Rat) * p2 e) := by
      rw [hv, hvd]; cases s <;> simp [sg]; grind
    have hex : ∀ (m' : Nat) (e' : Int), (m : Rat) * p2 e = (m' : Rat) * p2 e' → m' < 2 ^ bK k → lK k ≤ e' → (c : Rat) * p2 last = (m : Rat) * p2 e := by
      intro m' e' h1 h2 h3
      refine hc3 ⟨m', e', h1, ?_⟩
      rw [hl, hfb, hlp]
      have h5 : (m.log2 : Int) + e < bK k + e' := by
        refine p2_lt ?_
        rw [p2_add (bK k : Int) e', p2_nat]
        have h6 : ((m' : Nat) : Rat) < ((2 ^ bK k : Nat) : Rat) := by exact_mod_cast h2
        have h7 := Rat.mul_lt_mul_of_pos_right h6 (p2_pos e')
        grind
      omega
    refine ⟨by unfold fN; rw [hdec]; rfl, ?_, fun m' e' h1 h2 h3 => by rw [hv, hvd, hex m' e' h1 h2 h3], fun m' e' h1 h2 h3 => by
      rw [hv, A_sg, hex m' e' h1 h2 h3]; exact A_of_nonneg (Rat.mul_nonneg (by exact_mod_cast Nat.zero_le m) (Rat.le_of_lt hpe))⟩
    rw [hdiff, A_sg, A_le]
    have hlast : p2 last ≤ 2 * (uK k * ((m : Rat) * p2 e)) + 2 * eK k := by
      have huq : 0 ≤ uK k * ((m : Rat) * p2 e) := Rat.mul_nonneg (Rat.le_of_lt hu) (Rat.mul_nonneg (by exact_mod_cast Nat.zero_le m) (Rat.le_of_lt hpe))
      rcases Int.le_total (e + (m.log2 : Int) - (k.format.fractionBits : Int)) k.format.leastPlace with h | h
      · have : last = lK k := by omega
        have h2 : p2 last = 2 * eK k := by rw [this]; cases k <;> (show p2 _ = 2 * p2 _; rw [show (2 : Rat) = p2 1 from rfl, ← p2_add]; congr 1)
        grind
      · have h1 : last = (m.log2 : Int) + e + (1 - bK k) := by omega
        have h2 : p2 (1 - bK k : Int) = 2 * uK k := by cases k <;> (show p2 _ = 2 * p2 _; rw [show (2 : Rat) = p2 1 from rfl, ← p2_add]; congr 1)
        rw [h1, p2_add, h2]
        have := Rat.mul_le_mul_of_nonneg_right hlq (show 0 ≤ 2 * uK k by grind)
        grind
    grind
end Go.Proofs.YtdnoilcfgicnnaaGreat

/- Sums, products, quotients and conversions of floats on values. Conditions: the result does not pass the kind's greatest number. -/
namespace Go.Proofs.YtdnoilcfgicnnaaGreat
set_option linter.unusedSimpArgs false
set_option linter.unusedVariables false
open Go

/-- A result: a number, near the exact value, and the exact value itself where that has few digits. -/
def Res (k : FloatKind) (r : Nat) (q : Rat) : Prop :=
  fN k r = true ∧ A (vN k r - q) ≤ uK k * A q + eK k ∧ ∀ (m' : Nat) (e' : Int), A q = (m' : Rat) * p2 e' → m' < 2 ^ bK k → lK k ≤ e' → vN k r = q

theorem signed_val (s : Bool) (m : Nat) (i base : Int) (h : base ≤ i) : ((Ieee.signed s m (i - base).toNat : Int) : Rat) * p2 base = valD (.number s m i) := by
  have h1 : p2 i = ((2 ^ (i - base).toNat : Nat) : Rat) * p2 base := by rw [← p2_toNat (by omega), ← p2_add]; congr 1; omega
  have h2 : valD (.number s m i) = sg s ((m : Rat) * p2 i) := rfl
  unfold Ieee.signed
  rw [h2, h1, Nat.shiftLeft_eq]
  cases s
  · simp only [sg, Bool.false_eq_true, if_false, Rat.intCast_natCast, Rat.natCast_mul]; grind
  · simp only [sg, if_true, Rat.intCast_neg, Rat.intCast_natCast, Rat.natCast_mul]; grind
theorem natAbs_val (t : Int) (b : Bool) (hb : t ≠ 0 → b = decide (t < 0)) (e : Int) : valD (.number b t.natAbs e) = (t : Rat) * p2 e := by
  show sg b _ = _
  by_cases h0 : t = 0
  · subst h0
    have : ((Int.natAbs 0 : Nat) : Rat) * p2 e = 0 := by rw [show ((Int.natAbs 0 : Nat) : Rat) = 0 from rfl]; grind
    rw [this]; cases b <;> simp [sg] <;> (rw [show ((0 : Int) : Rat) = 0 from rfl]; grind)
  · rw [hb h0]
    by_cases h : t < 0
    · have h2 : ((t.natAbs : Nat) : Rat) = -(t : Rat) := by
        have : ((t.natAbs : Nat) : Int) = -t := by omega
        rw [← Rat.intCast_natCast, this, Rat.intCast_neg]
      rw [h2]; simp [h, sg]; grind
    · have h2 : ((t.natAbs : Nat) : Rat) = (t : Rat) := by
        have : ((t.natAbs : Nat) : Int) = t := by omega
        rw [← Rat.intCast_natCast, this]
      rw [h2]; simp [h, sg]
theorem sum_val {a b : Ieee.Datum} (ha : isNum a = true) (hb : isNum b = true) : ∃ d, a.sum b = some d ∧ isNum d = true ∧ valD d = valD a + valD b := by
  obtain ⟨s, m, i, rfl⟩ := isNum_ex ha
  obtain ⟨t, n, j, rfl⟩ := isNum_ex hb
  refine ⟨_, rfl, rfl, ?_⟩
  rw [natAbs_val _ _ (fun h => by simp [h]), Rat.intCast_add, ← signed_val s m i (min i j) (by omega), ← signed_val t n j (min i j) (by omega)]
  grind
theorem opposite_val {a : Ieee.Datum} (ha : isNum a = true) : isNum a.opposite = true ∧ valD a.opposite = -valD a := by
  obtain ⟨s, m, i, rfl⟩ := isNum_ex ha
  refine ⟨rfl, ?_⟩
  show sg (!s) _ = -sg s _
  cases s <;> simp [sg]
theorem product_val {a b : Ieee.Datum} (ha : isNum a = true) (hb : isNum b = true) : ∃ d, a.product b = some d ∧ isNum d = true ∧ valD d = valD a * valD b := by
  obtain ⟨s, m, i, rfl⟩ := isNum_ex ha
  obtain ⟨t, n, j, rfl⟩ := isNum_ex hb
  refine ⟨_, rfl, rfl, ?_⟩
  show sg (s ^^ t) _ = sg s _ * sg t _
  rw [p2_add, Rat.natCast_mul]
  cases s <;> cases t <;> simp [sg] <;> grind

theorem res_write {k : FloatKind} {d : Ieee.Datum} (hd : isNum d = true) (ht : A (valD d) < tK k) : Res k (nrm k (k.encode d)) (valD d) := by
  obtain ⟨h1, h2, h3, _⟩ := write_ok k d hd ht
  rw [fN_nrm h1]
  exact ⟨h1, h2, h3⟩
theorem fop_add_res {k : FloatKind} {x y : Nat} (hx : fN k x = true) (hy : fN k y = true) (ht : A (vN k x + vN k y) < tK k) : Res k (fop .add k x y) (vN k x + vN k y) := by
  obtain ⟨d, h1, h2, h3⟩ := sum_val hx hy
  have hv : vN k x + vN k y = valD d := h3.symm
  have hf : fop .add k x y = nrm k (k.encode d) := by
    unfold fop floatBits Ieee.Format.add
    dsimp only
    rw [show (k.format.read x).sum (k.format.read y) = some d from h1]
    rfl
  rw [hv] at ht
  rw [hf, hv]
  exact res_write h2 ht
theorem fop_sub_res {k : FloatKind} {x y : Nat} (hx : fN k x = true) (hy : fN k y = true) (ht : A (vN k x - vN k y) < tK k) : Res k (fop .sub k x y) (vN k x - vN k y) := by
  obtain ⟨ho1, ho2⟩ := opposite_val hy
  obtain ⟨d, h1, h2, h3⟩ := sum_val hx ho1
  have hv : vN k x - vN k y = valD d := by rw [h3, ho2]; exact Rat.sub_eq_add_neg _ _
  have hf : fop .sub k x y = nrm k (k.encode d) := by
    unfold fop floatBits Ieee.Format.sub
    dsimp only
    rw [show (k.format.read x).sum (k.format.read y).opposite = some d from h1]
    rfl
  rw [hv] at ht
  rw [hf, hv]
  exact res_write h2 ht
theorem fop_mul_res {k : FloatKind} {x y : Nat} (hx : fN k x = true) (hy : fN k y = true) (ht : A (vN k x * vN k y) < tK k) : Res k (fop .mul k x y) (vN k x * vN k y) := by
  obtain ⟨d, h1, h2, h3⟩ := product_val hx hy
  have hv : vN k x * vN k y = valD d := h3.symm
  have hf : fop .mul k x y = nrm k (k.encode d) := by
    unfold fop floatBits Ieee.Format.mul
    dsimp only
    rw [show (k.format.read x).product (k.format.read y) = some d from h1]
    rfl
  rw [hv] at ht
  rw [hf, hv]
  exact res_write h2 ht

/-- The digits of a word: fewer than 'bK', not below 'lK'. -/
theorem digits (k : FloatKind) (x : Nat) (h : fN k x = true) : ∃ (s : Bool) (m : Nat) (e : Int), k.decode x = .number s m e ∧ m < 2 ^ bK k ∧ lK k ≤ e := by
  obtain ⟨hsw, h4, hfb, hlp⟩ := format_facts k
  obtain ⟨s, m, e, hd⟩ := isNum_ex h
  refine ⟨s, m, e, hd, ?_⟩
  have hbn : k.format.binade = 2 ^ k.format.fractionBits := rfl
  have hb0 : 0 < k.format.binade := by rw [hbn]; exact Nat.two_pow_pos _
  have hb1 : 2 ^ bK k = 2 * k.format.binade := by
    rw [hbn, show bK k = k.format.fractionBits + 1 by omega, Nat.pow_succ]; omega
  have hd' : k.format.read x = .number s m e := hd
  unfold Ieee.Format.read at hd'
  dsimp only at hd'
  split at hd'
  · cases hd'; exact ⟨by omega, by omega⟩
  · split at hd'
    · cases hd'
      have := Nat.mod_lt (x % k.format.signWeight) hb0
      exact ⟨by omega, by omega⟩
    · split at hd' <;> cases hd'

theorem Res.exactA {k : FloatKind} {r : Nat} {q : Rat} (h : Res k r q) {m : Nat} {e : Int} (h1 : A q = (m : Rat) * p2 e) (h2 : m < 2 ^ bK k) (h3 : lK k ≤ e) : vN k r = q := h.2.2 m e h1 h2 h3
theorem vN_lt (k : FloatKind) {x : Nat} (h : fN k x = true) : ∃ (m : Nat) (e : Int), A (vN k x) = (m : Rat) * p2 e ∧ m < 2 ^ bK k ∧ lK k ≤ e := by
  obtain ⟨s, m, e, hd, h1, h2⟩ := digits k x h
  exact ⟨m, e, by unfold vN; rw [hd, A_val], h1, h2⟩

theorem isInf_of_num {d : Ieee.Datum} (h : isNum d = true) : d.isInfinity = false := by obtain ⟨s, m, e, rfl⟩ := isNum_ex h; rfl
/-- A float32 as a float64. -/
theorem wd_ok {x : Nat} (h : fN .f32 x = true) (ht : A (vN .f32 x) < p2 1023) : fN .f64 (wd x) = true ∧ vN .f64 (wd x) = vN .f32 x := by
  obtain ⟨s, m, e, hd, h1, h2⟩ := digits .f32 x h
  have hv : vN .f32 x = valD (.number s m e) := by unfold vN; rw [hd]
  have hR : Res .f64 (nrm .f64 (FloatKind.f64.encode (.number s m e))) (valD (.number s m e)) := res_write rfl (by rw [← hv]; exact ht)
  have hnum := (write_ok .f64 (.number s m e) rfl (by rw [← hv]; exact ht)).1
  have hw : wd x = nrm .f64 (FloatKind.f64.encode (.number s m e)) := by
    unfold wd fcvt floatToFloatBits
    rw [if_neg (by decide), hd]
    dsimp only
    rw [isInf_of_num hnum]
    rfl
  rw [hw]
  refine ⟨hR.1, ?_⟩
  rw [hv]
  exact hR.2.2 m e (A_val s m e) (Nat.lt_trans h1 (by decide)) (by have : lK .f64 = -1074 := rfl; have : lK .f32 = -149 := rfl; omega)
/-- A float64 narrowed. -/
theorem nw_ok {x : Nat} (h : fN .f64 x = true) (ht : A (vN .f64 x) < p2 127) : fit1 x ∧ Res .f32 (nw x) (vN .f64 x) := by
  obtain ⟨s, m, e, hd, h1, h2⟩ := digits .f64 x h
  have hv : vN .f64 x = valD (.number s m e) := by unfold vN; rw [hd]
  have hR : Res .f32 (nrm .f32 (FloatKind.f32.encode (.number s m e))) (valD (.number s m e)) := res_write rfl (by rw [← hv]; exact ht)
  have hnum := (write_ok .f32 (.number s m e) rfl (by rw [← hv]; exact ht)).1
  have hw : floatToFloatBits .f64 x .f32 = some (FloatKind.f32.encode (.number s m e)) := by
    unfold floatToFloatBits
    rw [if_neg (by decide), hd]
    dsimp only
    rw [isInf_of_num hnum]
    rfl
  refine ⟨by unfold fit1 fits; rw [hw]; simp, ?_⟩
  rw [hv, show nw x = nrm .f32 (FloatKind.f32.encode (.number s m e)) by unfold nw fcvt; rw [hw]; rfl]
  exact hR
/-- What is no number is narrowed as it is. -/
theorem nw_not {x : Nat} (h : fN .f64 x = false) : fit1 x ∧ fN .f32 (nw x) = false := by
  unfold fN at h
  unfold fit1 fits nw fcvt floatToFloatBits
  rw [if_neg (by decide)]
  cases hd : FloatKind.f64.decode x with
  | number s m e => rw [hd] at h; simp [isNum] at h
  | infinity s =>
    dsimp only
    refine ⟨by simp, ?_⟩
    cases s <;> decide +kernel
  | nan s f =>
    dsimp only
    refine ⟨by simp [isN, hd, Ieee.Datum.isNaN], ?_⟩
    decide +kernel
end Go.Proofs.YtdnoilcfgicnnaaGreat

/- Quotients of floats on values; finiteness and zero of words by their values. Conditions: none beyond the divisor's not being 0. -/
namespace Go.Proofs.YtdnoilcfgicnnaaGreat
set_option linter.unusedSimpArgs false
set_option linter.unusedVariables false
open Go

theorem lcancel_le {a b c : Rat} (hc : 0 < c) (h : a * c ≤ b * c) : a ≤ b := by
  rcases Rat.le_total (a := a) (b := b) with h1 | h1
  · exact h1
  · have h2 := Rat.mul_le_mul_of_nonneg_right h1 (Rat.le_of_lt hc)
    have h3 : a * c = b * c := Rat.le_antisymm h h2
    rw [rcancel hc h3]; exact Rat.le_refl

theorem quotient_val {a b : Ieee.Datum} (ha : isNum a = true) (hb : isNum b = true) (h0 : valD b ≠ 0) :
    ∃ d, Ieee.Datum.quotient 54 a b = some d ∧ isNum d = true ∧ A (valD d * valD b - valD a) ≤ p2 (-54) * A (valD a) := by
  obtain ⟨s, m, i, rfl⟩ := isNum_ex ha
  obtain ⟨t, n, j, rfl⟩ := isNum_ex hb
  have hn : n ≠ 0 := by rintro rfl; exact h0 (A_eq_zero (by rw [A_val, show ((0 : Nat) : Rat) = 0 from rfl]; grind))
  unfold Ieee.Datum.quotient
  dsimp only
  rw [if_neg hn]
  generalize hmore : 54 + n.log2 - m.log2 = more
  refine ⟨_, rfl, rfl, ?_⟩
  rw [A_val, Nat.shiftLeft_eq]
  have hn0 : 0 < n := Nat.pos_of_ne_zero hn
  have hdm := Nat.div_add_mod (m * 2 ^ more) n
  have hml := Nat.mod_lt (m * 2 ^ more) hn0
  have hbig : m ≠ 0 → 2 ^ 53 * n ≤ m * 2 ^ more := by
    intro hm
    have h1 : n < 2 ^ (n.log2 + 1) := Nat.lt_log2_self
    have h2 : 2 ^ m.log2 ≤ m := Nat.log2_self_le hm
    calc 2 ^ 53 * n ≤ 2 ^ 53 * 2 ^ (n.log2 + 1) := Nat.mul_le_mul_left _ (Nat.le_of_lt h1)
      _ = 2 ^ (54 + n.log2) := by rw [← Nat.pow_add]; congr 1; omega
      _ ≤ 2 ^ (m.log2 + more) := Nat.pow_le_pow_right (by decide) (by omega)
      _ = 2 ^ m.log2 * 2 ^ more := Nat.pow_add ..
      _ ≤ m * 2 ^ more := Nat.mul_le_mul_right _ h2
  -- the digits' error
  obtain ⟨M, hM, hMd⟩ : ∃ M, 2 * (m * 2 ^ more / n) + (m * 2 ^ more % n != 0).toNat = M ∧
      (M * n ≤ 2 * (m * 2 ^ more) + n ∧ 2 * (m * 2 ^ more) ≤ M * n + n) ∧ (m = 0 → M = 0) := by
    refine ⟨_, rfl, ?_, fun h => by subst h; simp⟩
    generalize m * 2 ^ more = D at *
    rw [Nat.add_mul, Nat.mul_assoc, Nat.mul_comm (D / n) n]
    generalize n * (D / n) = p at *
    by_cases hz : D % n = 0
    · simp [hz]; omega
    · have : (D % n != 0) = true := by simpa using hz
      rw [this, Bool.toNat_true, Nat.one_mul]; omega
  rw [hM]
  have hvd : valD (.number (s ^^ t) M (i - j - (more : Int) - 1)) * valD (.number t n j) = sg s (((M * n : Nat) : Rat) * p2 (i - (more : Int) - 1)) := by
    show sg _ _ * sg _ _ = _
    have : p2 (i - j - (more : Int) - 1) * p2 j = p2 (i - (more : Int) - 1) := by rw [← p2_add]; congr 1; omega
    rw [← this, Rat.natCast_mul]
    cases s <;> cases t <;> simp [sg] <;> grind
  have hva : valD (.number s m i) = sg s (((2 * (m * 2 ^ more) : Nat) : Rat) * p2 (i - (more : Int) - 1)) := by
    show sg s _ = _
    have : p2 i = ((2 * 2 ^ more : Nat) : Rat) * p2 (i - (more : Int) - 1) := by
      have e1 : (2 * 2 ^ more : Nat) = 2 ^ (more + 1) := by rw [Nat.pow_succ]; omega
      rw [e1, ← p2_nat, ← p2_add]; congr 1; omega
    rw [this, Rat.natCast_mul, Rat.natCast_mul, Rat.natCast_mul]
    congr 1; grind
  have hma : (m : Rat) * p2 i = ((2 * (m * 2 ^ more) : Nat) : Rat) * p2 (i - (more : Int) - 1) := by
    have := congrArg A hva
    rw [A_val, A_sg, A_of_nonneg (Rat.mul_nonneg (by exact_mod_cast Nat.zero_le _) (Rat.le_of_lt (p2_pos _)))] at this
    exact this
  rw [hvd, hva, hma]
  have hp := p2_pos (i - (more : Int) - 1)
  generalize p2 (i - (more : Int) - 1) = P at *
  have hdif : sg s (((M * n : Nat) : Rat) * P) - sg s (((2 * (m * 2 ^ more) : Nat) : Rat) * P) = sg s ((((M * n : Nat) : Rat) - ((2 * (m * 2 ^ more) : Nat) : Rat)) * P) := by
    cases s <;> simp [sg] <;> grind
  rw [hdif, A_sg, A_mul, A_of_nonneg (Rat.le_of_lt hp)]
  have key : A (((M * n : Nat) : Rat) - ((2 * (m * 2 ^ more) : Nat) : Rat)) ≤ p2 (-54) * ((2 * (m * 2 ^ more) : Nat) : Rat) := by
    by_cases hm : m = 0
    · rw [hMd.2 hm, hm, Nat.zero_mul, Nat.zero_mul, Nat.mul_zero, show ((0 : Nat) : Rat) = 0 from rfl, show (0 : Rat) - 0 = 0 by grind, A_zero]
      grind
    · have hb1 := hbig hm
      have h54 : p2 (-54) * p2 54 = 1 := by rw [← p2_add]; exact p2_zero
      have h54' : p2 54 = ((2 ^ 54 : Nat) : Rat) := p2_nat 54
      have c1 : ((M * n : Nat) : Rat) ≤ ((2 * (m * 2 ^ more) : Nat) : Rat) + (n : Rat) := by exact_mod_cast hMd.1.1
      have c2 : ((2 * (m * 2 ^ more) : Nat) : Rat) ≤ ((M * n : Nat) : Rat) + (n : Rat) := by exact_mod_cast hMd.1.2
      have c3 : p2 54 * (n : Rat) ≤ ((2 * (m * 2 ^ more) : Nat) : Rat) := by
        rw [h54', ← Rat.natCast_mul]
        have : 2 ^ 54 * n ≤ 2 * (m * 2 ^ more) := by
          have : (2 : Nat) ^ 54 = 2 * 2 ^ 53 := by decide
          rw [this, Nat.mul_assoc]; omega
        exact_mod_cast this
      have c4 := Rat.mul_le_mul_of_nonneg_left c3 (Rat.le_of_lt (p2_pos (-54)))
      rw [← Rat.mul_assoc, h54] at c4
      rw [A_le]
      grind
  have := Rat.mul_le_mul_of_nonneg_right key (Rat.le_of_lt hp)
  rw [Rat.mul_assoc] at this
  exact this

/-- A quotient of float64. -/
theorem fop_quo_ok {x y : Nat} (hx : fN .f64 x = true) (hy : fN .f64 y = true) (h0 : vN .f64 y ≠ 0) {q : Rat} (hq : q * vN .f64 y = vN .f64 x) (ht : A q < p2 1000) :
    fN .f64 (fop .quo .f64 x y) = true ∧ A (vN .f64 (fop .quo .f64 x y) - q) ≤ p2 (-52) * A q + p2 (-1075) := by
  obtain ⟨d, h1, h2, h3⟩ := quotient_val hx hy h0
  have hf : fop .quo .f64 x y = nrm .f64 (FloatKind.f64.encode d) := by
    unfold fop floatBits Ieee.Format.div
    dsimp only
    rw [show Ieee.Datum.quotient (FloatKind.f64.format.fractionBits + 2) (FloatKind.f64.format.read x) (FloatKind.f64.format.read y) = some d from h1]
    rfl
  have hb := A_pos h0
  have e1 : A (valD d - q) ≤ p2 (-54) * A q := by
    refine lcancel_le hb ?_
    rw [← A_mul]
    have e2 : (valD d - q) * vN .f64 y = valD d * vN .f64 y - vN .f64 x := by rw [← hq]; grind
    rw [e2, Rat.mul_assoc, ← A_mul, hq]
    exact h3
  have hq0 := A_nonneg q
  have hs54 : p2 (-54) ≤ 1 := by have := p2_mono (show (-54 : Int) ≤ 0 by decide); rw [p2_zero] at this; exact this
  have e3 : A (valD d) ≤ A q + p2 (-54) * A q := by
    have := A_add (valD d - q) q
    rw [show valD d - q + q = valD d by grind] at this
    grind
  have e4 : p2 (-54) * A q ≤ A q := by have := Rat.mul_le_mul_of_nonneg_right hs54 hq0; grind
  have hR : Res .f64 (nrm .f64 (FloatKind.f64.encode d)) (valD d) := res_write h2 (by
    have e5 : p2 1000 + p2 1000 = p2 1001 := by rw [show (1001 : Int) = 1 + 1000 by rfl, p2_add, show p2 1 = 2 from rfl]; grind
    have e6 := p2_mono (show (1001 : Int) ≤ 1023 by decide)
    show A (valD d) < p2 1023
    grind)
  rw [hf]
  refine ⟨hR.1, ?_⟩
  have e7 := A_add (vN .f64 (nrm .f64 (FloatKind.f64.encode d)) - valD d) (valD d - q)
  rw [show vN .f64 (nrm .f64 (FloatKind.f64.encode d)) - valD d + (valD d - q) = vN .f64 (nrm .f64 (FloatKind.f64.encode d)) - q by grind] at e7
  have e8 : A (vN .f64 (nrm .f64 (FloatKind.f64.encode d)) - valD d) ≤ p2 (-53) * A (valD d) + p2 (-1075) := hR.2.1
  have e9 : p2 (-53) * A (valD d) ≤ p2 (-53) * (A q + p2 (-54) * A q) := Rat.mul_le_mul_of_nonneg_left e3 (Rat.le_of_lt (p2_pos _))
  have f1 : p2 (-53) = 2 * p2 (-54) := by rw [show (-53 : Int) = 1 + -54 by rfl, p2_add]; rfl
  have f2 : p2 (-52) = 4 * p2 (-54) := by rw [show (-52 : Int) = 2 + -54 by rfl, p2_add]; rfl
  have f3 : p2 (-54) * (p2 (-54) * A q) ≤ p2 (-54) * A q * (1 / 2) := by
    have g1 : p2 (-54) ≤ 1 / 2 := by
      have := p2_mono (show (-54 : Int) ≤ -1 by decide)
      have g2 : p2 (-1) = 1 / 2 := by decide +kernel
      rw [g2] at this; exact this
    have := Rat.mul_le_mul_of_nonneg_right g1 (show 0 ≤ p2 (-54) * A q from Rat.mul_nonneg (Rat.le_of_lt (p2_pos _)) hq0)
    grind
  rw [f1] at e8 e9
  rw [f2]
  have f4 : 2 * p2 (-54) * (A q + p2 (-54) * A q) = 2 * (p2 (-54) * A q) + 2 * (p2 (-54) * (p2 (-54) * A q)) := by grind
  grind
/-- A quotient by 0 is no number. -/
theorem fop_quo_zero {x y : Nat} (hx : fN .f64 x = true) (hy : fN .f64 y = true) (h0 : vN .f64 y = 0) : fN .f64 (fop .quo .f64 x y) = false := by
  obtain ⟨s, m, i, hdx, _, _⟩ := digits .f64 x hx
  obtain ⟨t, n, j, hdy, _, _⟩ := digits .f64 y hy
  have hn : n = 0 := by
    have h1 : A (vN .f64 y) = (n : Rat) * p2 j := by unfold vN; rw [hdy, A_val]
    rw [h0, A_zero] at h1
    have h2 : (n : Rat) * p2 j = 0 * p2 j := by rw [← h1]; grind
    have := rcancel (p2_pos j) h2
    exact_mod_cast this
  subst hn
  unfold fop floatBits Ieee.Format.div
  dsimp only
  rw [show FloatKind.f64.format.read x = .number s m i from hdx, show FloatKind.f64.format.read y = .number t 0 j from hdy]
  unfold Ieee.Datum.quotient
  dsimp only
  rw [if_pos rfl]
  by_cases hm : m = 0
  · rw [if_pos hm]; decide +kernel
  · rw [if_neg hm]
    cases s <;> cases t <;> decide +kernel

/-- x - x is 0 where x is a number, and no number elsewhere. -/
theorem finF_iff (x : Nat) : finF x = fN .f32 x := by
  unfold finF fN
  cases hd : FloatKind.f32.decode x with
  | number s m e =>
    have hx : fN .f32 x = true := by unfold fN; rw [hd]; rfl
    have hR := fop_sub_res (k := .f32) hx hx (by rw [show vN .f32 x - vN .f32 x = 0 by grind, A_zero]; exact p2_pos _)
    have hz : vN .f32 (fop .sub .f32 x x) = 0 := by
      have := hR.2.2 0 0 (by rw [show vN .f32 x - vN .f32 x = 0 by grind, A_zero, show ((0 : Nat) : Rat) = 0 from rfl]; grind) (by decide) (by decide)
      rw [this]; grind
    obtain ⟨t, n, j, hdy, _, _⟩ := digits .f32 _ hR.1
    have hn : n = 0 := by
      have h1 : A (vN .f32 (fop .sub .f32 x x)) = (n : Rat) * p2 j := by unfold vN; rw [hdy, A_val]
      rw [hz, A_zero] at h1
      have h2 : (n : Rat) * p2 j = 0 * p2 j := by rw [← h1]; grind
      have := rcancel (p2_pos j) h2
      exact_mod_cast this
    subst hn
    rw [nrm0]
    have h0 : FloatKind.f32.format.read 0 = .number false 0 (-149) := by decide +kernel
    unfold fcmp Ieee.Format.order
    rw [show FloatKind.f32.format.read (fop .sub .f32 x x) = .number t 0 j from hdy, h0]
    simp [Ieee.Datum.order, Ieee.signed, isNum]
  | infinity s =>
    have hf : fop .sub .f32 x x = qnan .f32 := by
      unfold fop floatBits Ieee.Format.sub
      dsimp only
      rw [show FloatKind.f32.format.read x = .infinity s from hd]
      clear hd
      cases s <;> decide +kernel
    rw [hf]; show fcmp .eql .f32 (qnan .f32) (nrm .f32 0) = false; decide +kernel
  | nan s f =>
    have hf : fop .sub .f32 x x = qnan .f32 := by
      unfold fop floatBits Ieee.Format.sub
      dsimp only
      rw [show FloatKind.f32.format.read x = .nan s f from hd, sum_nan_left]
      decide +kernel
    rw [hf]; show fcmp .eql .f32 (qnan .f32) (nrm .f32 0) = false; decide +kernel
theorem finC_iff (z : C2) : finC z = (fN .f32 z.1 && fN .f32 z.2) := by unfold finC; rw [finF_iff, finF_iff]
/-- Equal to 0. -/
theorem eql0_iff {x : Nat} (h : fN .f32 x = true) : fcmp .eql .f32 x (nrm .f32 0) = true ↔ vN .f32 x = 0 := by
  obtain ⟨t, n, j, hdy, _, _⟩ := digits .f32 _ h
  have h0 : FloatKind.f32.format.read 0 = .number false 0 (-149) := by decide +kernel
  have hA : A (vN .f32 x) = (n : Rat) * p2 j := by unfold vN; rw [hdy, A_val]
  have e1 : vN .f32 x = 0 ↔ n = 0 := by
    constructor
    · intro hv
      rw [hv, A_zero] at hA
      have h2 : (n : Rat) * p2 j = 0 * p2 j := by rw [← hA]; grind
      have := rcancel (p2_pos j) h2
      exact_mod_cast this
    · rintro rfl
      exact A_eq_zero (by rw [hA, show ((0 : Nat) : Rat) = 0 from rfl]; grind)
  rw [e1, nrm0]
  unfold fcmp Ieee.Format.order
  rw [show FloatKind.f32.format.read x = .number t n j from hdy, h0]
  simp only [Ieee.Datum.order, Ieee.signed]
  have hp : 0 < 2 ^ (j - min j (-149)).toNat := Nat.two_pow_pos _
  simp only [Nat.shiftLeft_eq, Nat.zero_mul]
  constructor
  · intro hh
    rw [beq_iff_eq] at hh
    have hh2 := Option.some.inj hh
    have hh3 := Int.compare_eq_eq.1 hh2
    rcases Nat.eq_zero_or_pos n with h1 | h1
    · exact h1
    · exfalso
      have := Nat.mul_pos h1 hp
      generalize n * 2 ^ (j - min j (-149)).toNat = y at *
      cases t <;> simp at hh3 <;> omega
  · rintro rfl
    rw [beq_iff_eq]
    congr 1
    refine Int.compare_eq_eq.2 ?_
    cases t <;> simp
theorem zeroC_iff {z : C2} (h : finC z = true) : zeroC z = true ↔ vN .f32 z.1 = 0 ∧ vN .f32 z.2 = 0 := by
  rw [finC_iff, Bool.and_eq_true] at h
  unfold zeroC
  rw [Bool.and_eq_true, eql0_iff h.1, eql0_iff h.2]
end Go.Proofs.YtdnoilcfgicnnaaGreat
