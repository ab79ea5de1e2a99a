/- Plain facts of the drawn roots: finite, their real parts rise, distances fit, none is below 0, that of a number to itself is 0. Conditions: roots as they are drawn. -/
import Derived.Test.YtdnoilcfgicnnaaGreatY12
namespace Go.Proofs.YtdnoilcfgicnnaaGreat
set_option linter.unusedSimpArgs false
set_option linter.unusedVariables false
open Go

theorem write_num {k : FloatKind} {s : Bool} {m : Nat} {e : Int} (ht : (m : Rat) * p2 e < tK k) : ∃ M P, k.decode (k.encode (.number s m e)) = .number s M P := by
  obtain ⟨hsw, h4, hfb, hlp⟩ := format_facts k
  by_cases hm : m = 0
  · subst hm
    have hw : k.encode (.number s 0 e) = k.format.word s 0 := by show k.format.nearest s 0 e = _; unfold Ieee.Format.nearest; simp
    have hb0 : 0 < k.format.binade := Nat.two_pow_pos _
    have hir : 0 < k.format.infRung := by cases k <;> decide +kernel
    refine ⟨0, k.format.leastPlace, ?_⟩
    show k.format.read _ = _
    rw [hw, read_word_num k.format s hir hsw, if_pos hb0]
  · have hlog : (2 : Nat) ^ m.log2 ≤ m := Nat.log2_self_le hm
    have hlq : p2 ((m.log2 : Int) + e) ≤ (m : Rat) * p2 e := by
      rw [p2_add, p2_nat]
      exact Rat.mul_le_mul_of_nonneg_right (by exact_mod_cast hlog) (Rat.le_of_lt (p2_pos e))
    have hR := nearest_rounds k.format hsw h4 s m e hm (by
      rw [hfb, hlp]
      have h1 : (m.log2 : Int) + e < (match k with | .f32 => 127 | .f64 => 1023) := by
        cases k
        · exact p2_lt (b := 127) (by have ht' : (m : Rat) * p2 e < p2 127 := ht; generalize p2 127 = t at *; grind)
        · exact p2_lt (b := 1023) (by have ht' : (m : Rat) * p2 e < p2 1023 := ht; generalize p2 1023 = t at *; grind)
      cases k
      · have : ((2 ^ FloatKind.f32.format.exponentBits : Nat) : Int) = 256 := by decide
        rw [this]; simp only [bK, lK] at *; omega
      · have : ((2 ^ FloatKind.f64.format.exponentBits : Nat) : Int) = 2048 := by decide
        rw [this]; simp only [bK, lK] at *; omega)
    obtain ⟨M, P, c, last, hread, _⟩ := hR.ex
    exact ⟨M, P, hread⟩
/-- A number that is not below 0. -/
def Pos (k : FloatKind) (x : Nat) : Prop := ∃ M P, k.decode x = .number false M P
theorem Pos.fN {k : FloatKind} {x : Nat} (h : Pos k x) : fN k x = true := by obtain ⟨M, P, h⟩ := h; unfold Go.Proofs.YtdnoilcfgicnnaaGreat.fN; rw [h]; rfl
theorem Pos.nonneg {k : FloatKind} {x : Nat} (h : Pos k x) : 0 ≤ vN k x := by
  obtain ⟨M, P, h⟩ := h
  unfold vN
  rw [h]
  show 0 ≤ sg false _
  exact Rat.mul_nonneg (by exact_mod_cast Nat.zero_le M) (Rat.le_of_lt (p2_pos P))
theorem pos_write {k : FloatKind} {m : Nat} {e : Int} (ht : (m : Rat) * p2 e < tK k) : Pos k (nrm k (k.encode (.number false m e))) := by
  obtain ⟨M, P, h⟩ := write_num (s := false) ht
  have hn : Go.Proofs.YtdnoilcfgicnnaaGreat.fN k (k.encode (.number false m e)) = true := by unfold Go.Proofs.YtdnoilcfgicnnaaGreat.fN; rw [h]; rfl
  rw [fN_nrm hn]
  exact ⟨M, P, h⟩
theorem mul_pos {x : Nat} (h : fN .f64 x = true) (ht : A (vN .f64 x * vN .f64 x) < p2 1023) : Pos .f64 (fop .mul .f64 x x) := by
  obtain ⟨s, m, i, hd⟩ := isNum_ex h
  have hf : fop .mul .f64 x x = nrm .f64 (FloatKind.f64.encode (.number (s ^^ s) (m * m) (i + i))) := by
    unfold fop floatBits Ieee.Format.mul
    dsimp only
    rw [show FloatKind.f64.format.read x = .number s m i from hd]
    rfl
  have hs : (s ^^ s) = false := by cases s <;> rfl
  rw [hf, hs]
  refine pos_write ?_
  have h1 : A (vN .f64 x) = (m : Rat) * p2 i := by unfold vN; rw [hd, A_val]
  rw [A_mul, h1] at ht
  show _ < p2 1023
  rw [p2_add, Rat.natCast_mul]
  generalize p2 1023 = t at *
  grind
theorem add_pos {x y : Nat} (hx : Pos .f64 x) (hy : Pos .f64 y) (ht : A (vN .f64 x + vN .f64 y) < p2 1023) : Pos .f64 (fop .add .f64 x y) := by
  obtain ⟨m, i, hx⟩ := hx
  obtain ⟨n, j, hy⟩ := hy
  have hf : fop .add .f64 x y = nrm .f64 (FloatKind.f64.encode (.number (if (Ieee.signed false m (i - min i j).toNat + Ieee.signed false n (j - min i j).toNat) = 0 then false && false else Ieee.signed false m (i - min i j).toNat + Ieee.signed false n (j - min i j).toNat < 0)
      (Ieee.signed false m (i - min i j).toNat + Ieee.signed false n (j - min i j).toNat).natAbs (min i j))) := by
    unfold fop floatBits Ieee.Format.add
    dsimp only
    rw [show FloatKind.f64.format.read x = .number false m i from hx, show FloatKind.f64.format.read y = .number false n j from hy]
    rfl
  have h0 : 0 ≤ Ieee.signed false m (i - min i j).toNat + Ieee.signed false n (j - min i j).toNat := Int.add_nonneg (by unfold Ieee.signed; exact Int.natCast_nonneg _) (by unfold Ieee.signed; exact Int.natCast_nonneg _)
  have hv : vN .f64 x + vN .f64 y = ((Ieee.signed false m (i - min i j).toNat + Ieee.signed false n (j - min i j).toNat : Int) : Rat) * p2 (min i j) := by
    unfold vN
    rw [hx, hy, Rat.intCast_add, ← signed_val false m i (min i j) (by omega), ← signed_val false n j (min i j) (by omega)]
    grind
  generalize Ieee.signed false m (i - min i j).toNat + Ieee.signed false n (j - min i j).toNat = tot at *
  have hb : (if tot = 0 then false && false else decide (tot < 0)) = false := by
    split
    · rfl
    · simp; omega
  rw [hf, hb]
  refine pos_write ?_
  rw [hv, A_intm _ (Rat.le_of_lt (p2_pos _))] at ht
  exact ht
/-- The root of a number that is not below 0. -/
theorem root_false {m : Nat} {i : Int} (hb : (m : Rat) * p2 i ≤ p2 90) : ∃ M P, Ieee.Datum.root 54 (.number false m i) = some (.number false M P) ∧ (M : Rat) * p2 P ≤ p2 60 := by
  unfold Ieee.Datum.root
  dsimp only
  by_cases hm : m = 0
  · rw [if_pos hm]
    refine ⟨m, i, rfl, ?_⟩
    rw [hm, show ((0 : Nat) : Rat) = 0 from rfl]
    have := p2_pos 60
    generalize p2 60 = t at *
    grind
  · rw [if_neg hm]
    simp only [Bool.false_eq_true, if_false]
    generalize hmore : 2 * 54 - m.log2 + ((i - ((2 * 54 - m.log2 : Nat) : Int)) % 2).toNat = more
    obtain ⟨E, hE⟩ : ∃ E : Int, i - (more : Int) = 2 * E := ⟨(i - (more : Int)) / 2, by omega⟩
    have hE2 : (i - (more : Int)) / 2 - 1 = E - 1 := by omega
    have hwl := rootFrom_le (m <<< more) ((m <<< more).log2 / 2 + 1) 0 (by simp)
    generalize Ieee.Datum.rootFrom (m <<< more) ((m <<< more).log2 / 2 + 1) 0 = wh at *
    rw [hE2]
    refine ⟨_, _, rfl, ?_⟩
    have hst : ((2 * wh + (wh * wh != m <<< more).toNat : Nat) : Rat) ≤ 2 * (wh : Rat) + 1 := by
      have : 2 * wh + (wh * wh != m <<< more).toNat ≤ 2 * wh + 1 := by
        have := Bool.toNat_le (wh * wh != m <<< more); omega
      have h2 : ((2 * wh + (wh * wh != m <<< more).toNat : Nat) : Rat) ≤ ((2 * wh + 1 : Nat) : Rat) := by exact_mod_cast this
      rw [Rat.natCast_add (2 * wh) 1, Rat.natCast_mul] at h2
      exact h2
    rw [Nat.shiftLeft_eq] at hwl
    have hwl2 : ((wh : Nat) : Rat) * (wh : Rat) ≤ (m : Rat) * p2 (more : Int) := by
      rw [p2_nat, ← Rat.natCast_mul, ← Rat.natCast_mul]; exact_mod_cast hwl
    have m1 : (1 : Rat) ≤ (m : Rat) := by exact_mod_cast Nat.pos_of_ne_zero hm
    have pE := p2_pos E
    have p2E : p2 E * p2 E = p2 (i - (more : Int)) := by rw [← p2_add]; congr 1; omega
    have pim : p2 (more : Int) * p2 (i - (more : Int)) = p2 i := by rw [← p2_add]; congr 1; omega
    have p90 : p2 90 = p2 45 * p2 45 := by rw [← p2_add]; rfl
    have w1 : (wh : Rat) * p2 E ≤ p2 45 := by
      refine sq_le_sq (Rat.le_of_lt (p2_pos 45)) ?_
      rw [← p90]
      have a1 := Rat.mul_le_mul_of_nonneg_right hwl2 (Rat.le_of_lt (p2_pos (i - (more : Int))))
      have a2 : (wh : Rat) * p2 E * ((wh : Rat) * p2 E) = (wh : Rat) * (wh : Rat) * p2 (i - (more : Int)) := by rw [← p2E]; grind
      rw [Rat.mul_assoc (m : Rat), pim] at a1
      rw [a2]
      exact Rat.le_trans a1 hb
    have w2 : p2 E ≤ p2 45 := by
      refine sq_le_sq (Rat.le_of_lt (p2_pos 45)) ?_
      rw [← p90, p2E]
      have a1 : 1 * p2 i ≤ (m : Rat) * p2 i := Rat.mul_le_mul_of_nonneg_right m1 (Rat.le_of_lt (p2_pos i))
      have a3 : p2 (i - (more : Int)) ≤ p2 i := p2_mono (by omega)
      rw [Rat.one_mul] at a1
      exact Rat.le_trans a3 (Rat.le_trans a1 hb)
    have w3 : p2 E = p2 (E - 1) + p2 (E - 1) := p2_dbl (by omega)
    have w4 := Rat.mul_le_mul_of_nonneg_right hst (Rat.le_of_lt (p2_pos (E - 1)))
    have w5 : p2 45 + p2 45 ≤ p2 60 := by decide +kernel
    have w6 := p2_pos (E - 1)
    rw [w3] at w1 w2
    generalize p2 (E - 1) = x1 at *
    generalize p2 45 = x2 at *
    generalize p2 60 = x3 at *
    generalize ((2 * wh + (wh * wh != m <<< more).toNat : Nat) : Rat) = x4 at *
    generalize (wh : Rat) = x5 at *
    clear hb hwl2 p2E pim p90 hst
    grind
theorem sqF_pos {y : Nat} (h : Pos .f64 y) (hb : vN .f64 y ≤ p2 90) : Pos .f64 (sqF y) ∧ Pos .f32 (nw (sqF y)) := by
  obtain ⟨m, i, hd⟩ := h
  have hv : vN .f64 y = (m : Rat) * p2 i := by unfold vN; rw [hd]; rfl
  rw [hv] at hb
  obtain ⟨M, P, hr, hM⟩ := root_false hb
  have hq : sqF y = nrm .f64 (FloatKind.f64.encode (.number false M P)) := by
    unfold sqF Ieee.Format.sqrt
    rw [show FloatKind.f64.format.read y = .number false m i from hd, show Ieee.Datum.root (FloatKind.f64.format.fractionBits + 2) (.number false m i) = some (.number false M P) from hr]
    rfl
  have h60 : p2 60 < p2 1023 := lt_of_p2 (Rat.le_refl (a := p2 60)) (by decide)
  have hp := pos_write (k := .f64) (m := M) (e := P) (show _ < p2 1023 by generalize p2 1023 = t at *; generalize p2 60 = u at *; grind)
  rw [← hq] at hp
  refine ⟨hp, ?_⟩
  obtain ⟨M2, P2, hd2⟩ := hp
  have hR := write_ok .f64 (.number false M P) rfl (by rw [A_val]; show _ < p2 1023; generalize p2 1023 = t at *; generalize p2 60 = u at *; grind)
  have hn : nrm .f64 (FloatKind.f64.encode (.number false M P)) = FloatKind.f64.encode (.number false M P) := fN_nrm hR.1
  have hval : vN .f64 (sqF y) = (M2 : Rat) * p2 P2 := by unfold vN; rw [hd2]; rfl
  have hsm : (M2 : Rat) * p2 P2 < p2 127 := by
    have a1 := hR.2.1
    rw [← hn, ← hq, hval, A_val] at a1
    have a2 := le_A ((M2 : Rat) * p2 P2 - valD (.number false M P))
    have a3 : valD (.number false M P) = (M : Rat) * p2 P := rfl
    rw [a3] at a1 a2
    have u0 : uK .f64 ≤ 1 := by decide +kernel
    have u2 : eK .f64 ≤ 1 := by decide +kernel
    have u3 := Rat.mul_le_mul_of_nonneg_right u0 (Rat.mul_nonneg (show (0 : Rat) ≤ (M : Rat) by exact_mod_cast Nat.zero_le M) (Rat.le_of_lt (p2_pos P)))
    have u4 : 2 * p2 60 + 1 < p2 127 := by decide +kernel
    generalize uK .f64 = a at *
    generalize eK .f64 = b at *
    generalize p2 60 = c at *
    generalize p2 127 = g at *
    clear h60 hR hn hval hq hd2 hr hv hb hd
    grind
  have hw : floatToFloatBits .f64 (sqF y) .f32 = some (FloatKind.f32.encode (.number false M2 P2)) := by
    unfold floatToFloatBits
    rw [if_neg (by decide), hd2]
    dsimp only
    obtain ⟨M3, P3, h3⟩ := write_num (k := .f32) (s := false) (m := M2) (e := P2) hsm
    rw [h3]; rfl
  rw [show nw (sqF y) = nrm .f32 (FloatKind.f32.encode (.number false M2 P2)) by unfold nw fcvt; rw [hw]; rfl]
  exact pos_write hsm
theorem longF_pos {d : C2} (hd : fC d) (hn : N (cv d) ≤ p2 44) : Pos .f32 (longF d) := by
  have a1 : A (vN .f32 d.1) ≤ N (cv d) := re_le_N (cv d)
  have a2 : A (vN .f32 d.2) ≤ N (cv d) := im_le_N (cv d)
  have m1 : p2 44 < p2 200 := lt_of_p2 (Rat.le_refl (a := p2 44)) (by decide)
  have m2 : p2 44 < p2 1023 := lt_of_p2 (Rat.le_refl (a := p2 44)) (by decide)
  obtain ⟨p1, q1⟩ := wd_ok hd.1 (by grind)
  obtain ⟨p2', q2⟩ := wd_ok hd.2 (by grind)
  have k1 : A (vN .f32 d.1 * vN .f32 d.1) ≤ p2 88 := by
    rw [A_mul]
    have := mul_le (Rat.le_trans a1 hn) (Rat.le_trans a1 hn) (A_nonneg _) (Rat.le_of_lt (p2_pos 44))
    rw [← p2_add] at this; exact this
  have k2 : A (vN .f32 d.2 * vN .f32 d.2) ≤ p2 88 := by
    rw [A_mul]
    have := mul_le (Rat.le_trans a2 hn) (Rat.le_trans a2 hn) (A_nonneg _) (Rat.le_of_lt (p2_pos 44))
    rw [← p2_add] at this; exact this
  have m3 : p2 88 < p2 1023 := lt_of_p2 (Rat.le_refl (a := p2 88)) (by decide)
  have P1 := mul_pos p1 (by rw [q1]; grind)
  have P2 := mul_pos p2' (by rw [q2]; grind)
  obtain ⟨_, e1'⟩ := prod_exact hd.1 hd.1 (by grind) (by grind)
  obtain ⟨_, e2'⟩ := prod_exact hd.2 hd.2 (by grind) (by grind)
  have m4 : p2 88 + p2 88 = p2 89 := p2_two 88
  have m5 : p2 89 < p2 1023 := lt_of_p2 (Rat.le_refl (a := p2 89)) (by decide)
  have P3 := add_pos P1 P2 (by rw [e1', e2']; have := A_add (vN .f32 d.1 * vN .f32 d.1) (vN .f32 d.2 * vN .f32 d.2); grind)
  have hw := powerF_ok hd (lt_of_p2 hn (by decide))
  refine (sqF_pos P3 ?_).2
  have hs := sqN_le (cv d)
  have hs2 := mul_le hn hn (N_nonneg _) (Rat.le_of_lt (p2_pos 44))
  rw [← p2_add] at hs2
  have hs3 : sqN (cv d) ≤ p2 88 := Rat.le_trans hs hs2
  have hs0 := sqN_nonneg (cv d)
  have g := hw.2
  rw [A_of_nonneg hs0] at g
  have g2 := le_A (vN .f64 (powerF d) - sqN (cv d))
  have u1' : p2 (-53) ≤ 1 := p2_small (by decide)
  have u2 : p2 (-1075) ≤ 1 := p2_small (by decide)
  have u3 := Rat.mul_le_mul_of_nonneg_right u1' hs0
  have u4 : p2 88 + (p2 88 + 1) ≤ p2 90 := by decide +kernel
  show vN .f64 (powerF d) ≤ p2 90
  generalize p2 88 = c at *
  generalize p2 90 = f at *
  generalize p2 (-53) = h at *
  generalize p2 (-1075) = l at *
  clear m1 m2 m3 m4 m5 P1 P2 P3 e1' e2' hw p1 p2' q1 q2 k1 k2
  grind
theorem sub_self {x : Nat} (h : fN .f32 x = true) : fop .sub .f32 x x = 0 := by
  obtain ⟨s, m, i, hd⟩ := isNum_ex h
  unfold fop floatBits Ieee.Format.sub
  dsimp only
  rw [show FloatKind.f32.format.read x = .number s m i from hd]
  have e : (Ieee.Datum.number s m i).sum (Ieee.Datum.number s m i).opposite = some (.number false 0 i) := by
    show some _ = some _
    congr 1
    have h0 : Ieee.signed s m (i - min i i).toNat + Ieee.signed (!s) m (i - min i i).toNat = 0 := by unfold Ieee.signed; cases s <;> simp <;> omega
    rw [h0, Int.min_self]
    cases s <;> rfl
  rw [e]
  show nrm .f32 (FloatKind.f32.format.nearest false 0 i) = 0
  unfold Ieee.Format.nearest
  rw [if_pos rfl]
  decide +kernel
theorem long_zero : longF (0, 0) = 0 := by decide +kernel

/-- How two numbers stand to each other, by their values. -/
theorem order_num {k : FloatKind} {x y : Nat} (hx : fN k x = true) (hy : fN k y = true) : ∃ (a b : Int) (base : Int), vN k x = (a : Rat) * p2 base ∧ vN k y = (b : Rat) * p2 base ∧ k.format.order x y = some (compare a b) := by
  obtain ⟨s, m, i, h1⟩ := isNum_ex hx
  obtain ⟨t, n, j, h2⟩ := isNum_ex hy
  refine ⟨Ieee.signed s m (i - min i j).toNat, Ieee.signed t n (j - min i j).toNat, min i j, ?_, ?_, ?_⟩
  · unfold vN; rw [h1]; exact (signed_val s m i (min i j) (by omega)).symm
  · unfold vN; rw [h2]; exact (signed_val t n j (min i j) (by omega)).symm
  · unfold Ieee.Format.order
    rw [show k.format.read x = .number s m i from h1, show k.format.read y = .number t n j from h2]
    rfl
theorem lss_false {k : FloatKind} {x y : Nat} (hx : fN k x = true) (hy : fN k y = true) (h : vN k y ≤ vN k x) : fcmp .lss k x y = false := by
  obtain ⟨a, b, e, h1, h2, h3⟩ := order_num hx hy
  unfold fcmp
  rw [h3]
  rw [h1, h2] at h
  have h4 := lcancel_le (p2_pos e) h
  have h5 : b ≤ a := by exact_mod_cast h4
  have : compare a b ≠ .lt := by
    intro hc; have := Int.compare_eq_lt.1 hc; omega
  cases hcmp : compare a b <;> simp_all
theorem gtr_true {k : FloatKind} {x y : Nat} (hx : fN k x = true) (hy : fN k y = true) (h : vN k y < vN k x) : fcmp .gtr k x y = true ∧ fcmp .eql k x y = false := by
  obtain ⟨a, b, e, h1, h2, h3⟩ := order_num hx hy
  unfold fcmp
  rw [h3]
  rw [h1, h2] at h
  have h5 : b < a := by
    rcases Int.lt_or_le b a with hh | hh
    · exact hh
    · have : (a : Rat) ≤ (b : Rat) := by exact_mod_cast hh
      have := Rat.mul_le_mul_of_nonneg_right this (Rat.le_of_lt (p2_pos e))
      grind
  rw [Int.compare_eq_gt.2 h5]
  exact ⟨rfl, rfl⟩
end Go.Proofs.YtdnoilcfgicnnaaGreat

/- Facts of the drawn roots in a list; a byte's number. Conditions: 1 to 6 roots as they are drawn. -/
namespace Go.Proofs.YtdnoilcfgicnnaaGreat
open Go Go.RowKit
set_option linter.unusedSimpArgs false
set_option linter.unusedVariables false

/-- A list of drawn roots. -/
structure DL (ls : List C2) : Prop where
  h1 : 1 ≤ ls.length
  h6 : ls.length ≤ 6
  d : ∀ k, k < ls.length → DR (nc (ls.getD k (0, 0))) k
theorem DL.fin {ls : List C2} (h : DL ls) {k : Nat} (hk : k < ls.length) : fC (nc (ls.getD k (0, 0))) ∧ N (cv (nc (ls.getD k (0, 0)))) ≤ p2 41 := (h.d k hk).small (by have := h.h6; omega)
theorem DL.allFin {ls : List C2} (h : DL ls) : allFinC ls = true := (allFinC_true_iff ls).2 fun i hi => by
  have := (fC_iff _).1 (h.fin hi).1
  rwa [show ls.getD i (0, 0) = ls[i] by simp [List.getD, hi]] at this
theorem vN0 : vN .f32 0 = 0 := by decide +kernel
/-- A number is itself. -/
theorem eql_self {x : Nat} (hx : fN .f32 x = true) : fcmp .eql .f32 x x = true := by
  obtain ⟨a, b, e, h1, h2, h3⟩ := order_num hx hx
  unfold fcmp
  rw [h3]
  have : a = b := by
    have h4 : (a : Rat) * p2 e ≤ (b : Rat) * p2 e := by rw [← h1, ← h2]; exact Rat.le_refl
    have h5 : (b : Rat) * p2 e ≤ (a : Rat) * p2 e := by rw [← h1, ← h2]; exact Rat.le_refl
    have h6 : a ≤ b := by exact_mod_cast lcancel_le (p2_pos e) h4
    have h7 : b ≤ a := by exact_mod_cast lcancel_le (p2_pos e) h5
    omega
  subst this
  have : compare a a = .eq := by simp
  rw [this]
  rfl
set_option maxRecDepth 100000 in
set_option maxHeartbeats 400000 in
theorem b10At_one (va : Value) (i : Int) (w : World) : Calls Tryz.prog 5 #[va, .int .i64 i, .int .i64 1] w fun e w' => e = .returned (.int .i64 0) ∧ w = w' := by
  go_enter Tryz.func5, Tryz.ntmps5
  go_wp2
  go_ret
  exact ⟨rfl, rfl⟩
theorem b10At_any (va : Value) (a : List Int) (i n : Int) (w : World) (ha : RdB w va a) (h0 : 0 ≤ i) (h1 : i ≤ 1000000) (h2 : 1 ≤ n) (h3 : n ≤ 1000000) : Calls Tryz.prog 5 #[va, .int .i64 i, .int .i64 n] w fun e w' => ∃ z, e = .returned (.int .i64 z) ∧ 0 ≤ z ∧ z < n ∧ w = w' := by
  by_cases h : n = 1
  · subst h
    refine (b10At_one va i w).mono ?_
    rintro e w' ⟨rfl, rfl⟩
    exact ⟨0, rfl, by omega, by omega, rfl⟩
  · exact b10At_law va a i n w ha h0 h1 (by omega) h3
end Go.Proofs.YtdnoilcfgicnnaaGreat

/- Drawn polynomials of up to four roots: their terms are exact; Gaussian integers. Conditions: roots in eighths, of 1-norm at most 24 eighths. -/
namespace Go.Proofs.YtdnoilcfgicnnaaGreat
open Go
set_option linter.unusedSimpArgs false
set_option linter.unusedVariables false

def zm (u v : Int × Int) : Int × Int := (u.1 * v.1 - u.2 * v.2, u.1 * v.2 + u.2 * v.1)
def zs (u v : Int × Int) : Int × Int := (u.1 - v.1, u.2 - v.2)
def nz (u : Int × Int) : Nat := u.1.natAbs + u.2.natAbs
theorem nz_sub (u v : Int × Int) : nz (zs u v) ≤ nz u + nz v := by unfold nz zs; simp only; omega
theorem nz_mul (u v : Int × Int) : nz (zm u v) ≤ nz u * nz v := by
  unfold nz zm
  simp only
  rw [Nat.add_mul, Nat.mul_add, Nat.mul_add, ← Int.natAbs_mul, ← Int.natAbs_mul, ← Int.natAbs_mul, ← Int.natAbs_mul]
  omega
theorem Gr.mulB {x y : C2} {u v : Int × Int} {i j : Nat} (hx : Gr x u.1 u.2 i) (hy : Gr y v.1 v.2 j) (hu : nz u < 2 ^ 24) (hv : nz v < 2 ^ 24) (huv : nz u * nz v < 2 ^ 24) (hij : i + j ≤ 100) :
    fit2 (timesF x y) ∧ Gr (mulC x y) (zm u v).1 (zm u v).2 (i + j) := by
  have hz := nz_mul u v
  obtain ⟨a, b⟩ := u
  obtain ⟨c, d⟩ := v
  simp only [nz, zm] at *
  obtain ⟨⟨x1, x2⟩, x3, x4⟩ := hx.parts
  obtain ⟨⟨y1, y2⟩, y3, y4⟩ := hy.parts
  have b24 : p2 ((24 : Nat) : Int) ≤ p2 200 := p2_mono (by decide)
  have l1 := dy_lt (j := i) (n := 24) (a := a) (by omega)
  have l2 := dy_lt (j := i) (n := 24) (a := b) (by omega)
  have l3 := dy_lt (j := j) (n := 24) (a := c) (by omega)
  have l4 := dy_lt (j := j) (n := 24) (a := d) (by omega)
  rw [← x2] at l1
  rw [← x4] at l2
  rw [← y2] at l3
  rw [← y4] at l4
  obtain ⟨p1, p2'⟩ := prod_exact x1 y1 (by grind) (by grind)
  obtain ⟨q1, q2⟩ := prod_exact x3 y3 (by grind) (by grind)
  obtain ⟨r1, r2⟩ := prod_exact x1 y3 (by grind) (by grind)
  obtain ⟨s1, s2⟩ := prod_exact x3 y1 (by grind) (by grind)
  have hp : p2 (-((i + j : Nat) : Int)) = p2 (-(i : Int)) * p2 (-(j : Int)) := by rw [← p2_add]; congr 1; omega
  have n1 : (a * c - b * d).natAbs < 2 ^ 24 := by omega
  have n2 : (a * d + b * c).natAbs < 2 ^ 24 := by omega
  have e1' : vN .f32 x.1 * vN .f32 y.1 - vN .f32 x.2 * vN .f32 y.2 = ((a * c - b * d : Int) : Rat) * p2 (-((i + j : Nat) : Int)) := by
    rw [x2, x4, y2, y4, hp, Rat.intCast_sub, Rat.intCast_mul, Rat.intCast_mul]; grind
  have e2' : vN .f32 x.1 * vN .f32 y.2 + vN .f32 x.2 * vN .f32 y.1 = ((a * d + b * c : Int) : Rat) * p2 (-((i + j : Nat) : Int)) := by
    rw [x2, x4, y2, y4, hp, Rat.intCast_add, Rat.intCast_mul, Rat.intCast_mul]; grind
  obtain ⟨f1, g1, h1⟩ := (part_exact p1 p2' q1 q2 n1 hij).2 e1'
  obtain ⟨f2, g2, h2⟩ := (part_exact r1 r2 s1 s2 n2 hij).1 e2'
  exact ⟨⟨f1, f2⟩, ⟨g1, g2⟩, q2e (h1.trans e1') (h2.trans e2')⟩
theorem Gr.subB {x y : C2} {u v : Int × Int} {j : Nat} (hx : Gr x u.1 u.2 j) (hy : Gr y v.1 v.2 j) (h : nz u + nz v < 2 ^ 24) (hj : j ≤ 100) : Gr (subC x y) (zs u v).1 (zs u v).2 j := by
  have := nz_sub u v
  unfold nz at *
  exact hx.sub hy (by unfold zs at this; simp only at this; omega) (by unfold zs at this; simp only at this; omega) hj

/-- The terms in eighths. -/
def cz (X : Nat → Int × Int) : Nat → Nat → Int × Int
  | 0, k => if k = 0 then (1, 0) else (0, 0)
  | m + 1, k => zs (if k = 0 then (0, 0) else cz X m (k - 1)) (zm (X m) (cz X m k))
/-- Their bounds. -/
def bz : Nat → Nat → Nat
  | 0, k => if k = 0 then 1 else 0
  | m + 1, k => (if k = 0 then 0 else bz m (k - 1)) + 24 * bz m k
theorem cz_bd (X : Nat → Int × Int) (hX : ∀ i, nz (X i) ≤ 24) (m k : Nat) : nz (cz X m k) ≤ bz m k := by
  induction m generalizing k with
  | zero => unfold cz bz; split <;> decide
  | succ m ih =>
    unfold cz bz
    refine Nat.le_trans (nz_sub _ _) (Nat.add_le_add ?_ (Nat.le_trans (nz_mul _ _) (Nat.mul_le_mul (hX m) (ih k))))
    split
    · decide
    · exact ih _
theorem cz_over (X : Nat → Int × Int) (m k : Nat) (h : m < k) : cz X m k = (0, 0) := by
  induction m generalizing k with
  | zero => unfold cz; rw [if_neg (by omega)]
  | succ m ih => unfold cz; rw [if_neg (by omega), ih _ (by omega), ih _ (by omega)]; simp [zs, zm]
theorem bz_lt : ∀ m, m < 5 → ∀ k, k < 6 → bz m k < 2 ^ 19 := by decide +kernel
theorem bz_over (m k : Nat) (h : m < k) : bz m k = 0 := by
  induction m generalizing k with
  | zero => unfold bz; rw [if_neg (by omega)]
  | succ m ih => unfold bz; rw [if_neg (by omega), ih _ (by omega), ih _ (by omega)]
/-- The terms are exact. -/
theorem roots_exact {L : List C2} {X : Nat → Int × Int} (hX : ∀ i, nz (X i) ≤ 24) {m : Nat} (hm : m ≤ 4) (h : ∀ i, i < m → Gr (L.getD i (0, 0)) (X i).1 (X i).2 3) :
    (∀ k : Nat, Gr (catF (rootsL L m) k) (cz X m k).1 (cz X m k).2 (3 * (m - k))) ∧ ∀ i, i < m → ∀ k : Nat, k < i + 2 → fit2 (timesF (L.getD i (0, 0)) (catF (rootsL L i) k)) := by
  induction m with
  | zero =>
    refine ⟨fun k => ?_, fun i hi => absurd hi (by omega)⟩
    by_cases hk : k = 0
    · subst hk; exact Gr.one
    · rw [catF_over (by rw [rootsL_length]; omega), cz_over X 0 k (by omega)]; exact Gr.zero _
  | succ m ih =>
    obtain ⟨ih1, ih2⟩ := ih (by omega) (fun i hi => h i (by omega))
    have hxm := h m (by omega)
    have hlt : ∀ k, nz (cz X m k) < 2 ^ 19 := fun k => by
      by_cases hk : m < k
      · rw [cz_over X m k hk]; decide
      · exact Nat.lt_of_le_of_lt (cz_bd X hX m k) (bz_lt m (by omega) k (by omega))
    have hmul : ∀ k : Nat, fit2 (timesF (L.getD m (0, 0)) (catF (rootsL L m) k)) ∧ Gr (mulC (L.getD m (0, 0)) (catF (rootsL L m) k)) (zm (X m) (cz X m k)).1 (zm (X m) (cz X m k)).2 (3 + 3 * (m - k)) := fun k =>
      Gr.mulB (u := X m) (v := cz X m k) hxm (ih1 k) (by have := hX m; omega) (Nat.lt_trans (hlt k) (by decide)) (by
        have := Nat.mul_le_mul (hX m) (Nat.le_of_lt (hlt k))
        omega) (by omega)
    refine ⟨fun k => ?_, fun i hi k hk => ?_⟩
    · by_cases hk : m + 1 < k
      · rw [catF_over (by rw [rootsL_length]; omega), cz_over X (m + 1) k hk]; exact Gr.zero _
      · have e : catF (rootsL L (m + 1)) k = rootG (L.getD m (0, 0)) (rootsL L m) k := by
          rw [catF_in, rootsL_succ, rootsL_length]
          simp [List.getD, show k < m + 2 by omega]
        rw [e]
        unfold rootG
        have hs : 3 * (m + 1 - k) = 3 * (m + 1 - k) := rfl
        have hb : nz (zm (X m) (cz X m k)) < 2 ^ 23 + 2 ^ 22 + 1 := by
          have a1 := nz_mul (X m) (cz X m k)
          have a2 := Nat.mul_le_mul (hX m) (Nat.le_of_lt (hlt k))
          omega
        have hprod : Gr (mulC (L.getD m (0, 0)) (catF (rootsL L m) k)) (zm (X m) (cz X m k)).1 (zm (X m) (cz X m k)).2 (3 * (m + 1 - k)) := by
          by_cases hkm : k ≤ m
          · have := (hmul k).2
            rwa [show 3 + 3 * (m - k) = 3 * (m + 1 - k) by omega] at this
          · have hz : zm (X m) (cz X m k) = (0, 0) := by rw [cz_over X m k (by omega)]; simp [zm]
            have := (hmul k).2
            rw [hz] at this ⊢
            exact this.zero_to _
        show Gr _ (zs (if k = 0 then (0, 0) else cz X m (k - 1)) (zm (X m) (cz X m k))).1 (zs (if k = 0 then (0, 0) else cz X m (k - 1)) (zm (X m) (cz X m k))).2 _
        by_cases hk0 : k = 0
        · subst hk0
          rw [if_pos rfl, catF_neg (by decide)]
          exact (Gr.zero _).subB (u := (0, 0)) hprod (by show 0 + _ < _; omega) (by omega)
        · rw [if_neg hk0, show ((k : Int) - 1) = ((k - 1 : Nat) : Int) by omega]
          have h1 := ih1 (k - 1)
          rw [show 3 * (m - (k - 1)) = 3 * (m + 1 - k) by omega] at h1
          exact h1.subB hprod (by have := hlt (k - 1); omega) (by omega)
    · by_cases him : i < m
      · exact ih2 i him k hk
      · obtain rfl : i = m := by omega
        exact (hmul k).1
end Go.Proofs.YtdnoilcfgicnnaaGreat

/- Values of drawn polynomials, exactly: they are products; they are 0 at the roots. Conditions: as before. -/
namespace Go.Proofs.YtdnoilcfgicnnaaGreat
open Go
set_option linter.unusedSimpArgs false
set_option linter.unusedVariables false

def za (u v : Int × Int) : Int × Int := (u.1 + v.1, u.2 + v.2)
/-- Horner's partial values from the top. -/
def ez (X : Nat → Int × Int) (m : Nat) (Z : Int × Int) : Nat → Int × Int
  | 0 => cz X m m
  | j + 1 => za (zm (ez X m Z j) Z) (cz X m (m - j - 1))
theorem ez_step (X : Nat → Int × Int) (m : Nat) (Z : Int × Int) (j : Nat) (hj : j < m) : ez X (m + 1) Z (j + 1) = zs (ez X m Z (j + 1)) (zm (X m) (ez X m Z j)) := by
  induction j with
  | zero =>
    have h0 : ez X (m + 1) Z 0 = cz X m m := by
      show cz X (m + 1) (m + 1) = _
      rw [cz, if_neg (by omega), cz_over X m (m + 1) (by omega)]
      simp [zs, zm]
    show za (zm (ez X (m + 1) Z 0) Z) (cz X (m + 1) (m + 1 - 0 - 1)) = zs (za (zm (cz X m m) Z) (cz X m (m - 0 - 1))) (zm (X m) (cz X m m))
    rw [h0, show m + 1 - 0 - 1 = m by omega, cz, if_neg (by omega), show m - 0 - 1 = m - 1 by omega]
    simp only [za, zs, zm, Prod.mk.injEq]
    constructor <;> grind
  | succ j ih =>
    have ih := ih (by omega)
    show za (zm (ez X (m + 1) Z (j + 1)) Z) (cz X (m + 1) (m + 1 - (j + 1) - 1)) = zs (za (zm (ez X m Z (j + 1)) Z) (cz X m (m - (j + 1) - 1))) (zm (X m) (ez X m Z (j + 1)))
    have e1 : ez X m Z (j + 1) = za (zm (ez X m Z j) Z) (cz X m (m - j - 1)) := rfl
    rw [ih, show m + 1 - (j + 1) - 1 = m - j - 1 by omega, cz, if_neg (by omega), show m - (j + 1) - 1 = m - j - 1 - 1 by omega, e1]
    generalize ez X m Z j = e
    generalize cz X m (m - j - 1) = c
    generalize cz X m (m - j - 1 - 1) = d
    simp only [za, zs, zm, Prod.mk.injEq]
    constructor <;> grind
/-- One root more is one factor more. -/
theorem ez_mul (X : Nat → Int × Int) (m : Nat) (Z : Int × Int) : ez X (m + 1) Z (m + 1) = zm (zs Z (X m)) (ez X m Z m) := by
  cases m with
  | zero =>
    show za (zm (cz X 1 1) Z) (cz X 1 0) = zm (zs Z (X 0)) (cz X 0 0)
    simp [cz, za, zs, zm]
    constructor <;> grind
  | succ m =>
    have h := ez_step X (m + 1) Z m (by omega)
    show za (zm (ez X (m + 1 + 1) Z (m + 1)) Z) (cz X (m + 1 + 1) (m + 1 + 1 - (m + 1) - 1)) = _
    have e1 : ez X (m + 1) Z (m + 1) = za (zm (ez X (m + 1) Z m) Z) (cz X (m + 1) 0) := by
      show za _ (cz X (m + 1) (m + 1 - m - 1)) = _
      rw [show m + 1 - m - 1 = 0 by omega]
    rw [h, show m + 1 + 1 - (m + 1) - 1 = 0 by omega, cz, if_pos rfl, e1]
    generalize ez X (m + 1) Z m = e
    generalize cz X (m + 1) 0 = c
    simp only [za, zs, zm, Prod.mk.injEq]
    constructor <;> grind
theorem ez_root (X : Nat → Int × Int) (m i : Nat) (hi : i < m) : ez X m (X i) m = (0, 0) := by
  induction m with
  | zero => omega
  | succ m ih =>
    rw [ez_mul]
    by_cases h : i = m
    · subst h; simp [zm, zs]
    · rw [ih (by omega)]; simp [zm]
end Go.Proofs.YtdnoilcfgicnnaaGreat

/- Values of drawn polynomials at eighths: exact, safe; 0 at the roots. Conditions: up to four roots, points in eighths of 1-norm at most 24 eighths. -/
namespace Go.Proofs.YtdnoilcfgicnnaaGreat
open Go
set_option linter.unusedSimpArgs false
set_option linter.unusedVariables false

theorem nz_add (u v : Int × Int) : nz (za u v) ≤ nz u + nz v := by unfold nz za; simp only; omega
theorem Gr.addB {x y : C2} {u v : Int × Int} {j : Nat} (hx : Gr x u.1 u.2 j) (hy : Gr y v.1 v.2 j) (h : nz u + nz v < 2 ^ 24) (hj : j ≤ 100) : Gr (addC x y) (za u v).1 (za u v).2 j := by
  have hn := nz_add u v
  obtain ⟨a, b⟩ := u
  obtain ⟨c, d⟩ := v
  simp only [nz, za] at *
  obtain ⟨⟨x1, x2⟩, x3, x4⟩ := hx.parts
  obtain ⟨⟨y1, y2⟩, y3, y4⟩ := hy.parts
  have ha : (a + c).natAbs < 2 ^ 24 := by omega
  have hb : (b + d).natAbs < 2 ^ 24 := by omega
  have h25 : p2 ((24 : Nat) : Int) ≤ p2 127 := p2_mono (by decide)
  have e1' : vN .f32 x.1 + vN .f32 y.1 = ((a + c : Int) : Rat) * p2 (-(j : Int)) := by rw [x2, y2, Rat.intCast_add]; grind
  have e2' : vN .f32 x.2 + vN .f32 y.2 = ((b + d : Int) : Rat) * p2 (-(j : Int)) := by rw [x4, y4, Rat.intCast_add]; grind
  have l1 := dy_lt (j := j) ha
  have l2 := dy_lt (j := j) hb
  have R1 := fop_add_res (k := .f32) x1 y1 (by rw [e1']; show _ < p2 127; grind)
  have R2 := fop_add_res (k := .f32) x3 y3 (by rw [e2']; show _ < p2 127; grind)
  exact ⟨⟨R1.1, R2.1⟩, q2e ((exact32 R1 e1' ha hj).trans e1') ((exact32 R2 e2' hb hj).trans e2')⟩

def eb (m : Nat) : Nat → Nat
  | 0 => bz m m
  | j + 1 => eb m j * 24 + bz m (m - j - 1)
theorem ez_bd (X : Nat → Int × Int) (hX : ∀ i, nz (X i) ≤ 24) (m : Nat) (Z : Int × Int) (hZ : nz Z ≤ 24) (j : Nat) : nz (ez X m Z j) ≤ eb m j := by
  induction j with
  | zero => exact cz_bd X hX m m
  | succ j ih => exact Nat.le_trans (nz_add _ _) (Nat.add_le_add (Nat.le_trans (nz_mul _ _) (Nat.mul_le_mul ih hZ)) (cz_bd X hX m _))
theorem eb_lt : ∀ m, m < 5 → ∀ j, j < 5 → j ≤ m → eb m j < 2 ^ 23 := by decide +kernel
theorem eb_lt2 : ∀ m, m < 5 → ∀ j, j < 5 → j < m → eb m j * 24 + bz m (m - j - 1) < 2 ^ 24 := by decide +kernel

theorem horner_exact {L : List C2} {X : Nat → Int × Int} (hX : ∀ i, nz (X i) ≤ 24) {m : Nat} (hm : m ≤ 4) (h : ∀ i, i < m → Gr (L.getD i (0, 0)) (X i).1 (X i).2 3) {z : C2} {Z : Int × Int} (hz : Gr z Z.1 Z.2 3) (hZ : nz Z ≤ 24) :
    ∀ d j, j + d = m → ∀ v, Gr v (ez X m Z j).1 (ez X m Z j).2 (3 * j) → safeH (rootsL L m) z d v ∧ Gr (horner (rootsL L m) z d v) (ez X m Z m).1 (ez X m Z m).2 (3 * m) := by
  intro d
  induction d with
  | zero =>
    intro j hj v hv
    obtain rfl : j = m := by omega
    exact ⟨trivial, hv⟩
  | succ d ih =>
    intro j hj v hv
    have b1 := ez_bd X hX m Z hZ j
    have b2 := eb_lt m (by omega) j (by omega) (by omega)
    have b3 := eb_lt2 m (by omega) j (by omega) (by omega)
    have b4 := Nat.mul_le_mul b1 hZ
    obtain ⟨f, g⟩ := Gr.mulB (u := ez X m Z j) (v := Z) hv hz (by omega) (by omega) (by omega) (by omega)
    have T := (roots_exact hX hm h).1 d
    rw [catF_in] at T
    have hd : m - j - 1 = d := by omega
    rw [show 3 * (m - d) = 3 * (j + 1) by omega] at T
    have hs := Gr.addB (u := zm (ez X m Z j) Z) (v := cz X m d) (show Gr (mulC v z) _ _ (3 * (j + 1)) from g) T (by
      have := nz_mul (ez X m Z j) Z
      have := cz_bd X hX m d
      rw [hd] at b3
      omega) (by omega)
    have he : ez X m Z (j + 1) = za (zm (ez X m Z j) Z) (cz X m d) := by rw [← hd]; rfl
    rw [← he] at hs
    obtain ⟨i1, i2⟩ := ih (j + 1) (by omega) _ hs
    exact ⟨⟨f, i1⟩, i2⟩
/-- The value of the polynomial of roots at a point. -/
theorem value_exact {L : List C2} {X : Nat → Int × Int} (hX : ∀ i, nz (X i) ≤ 24) {m : Nat} (hm : m ≤ 4) (h : ∀ i, i < m → Gr (L.getD i (0, 0)) (X i).1 (X i).2 3) {z : C2} {Z : Int × Int} (hz : Gr z Z.1 Z.2 3) (hZ : nz Z ≤ 24) :
    safeN (rootsL L m) z ∧ Gr (nestedF (rootsL L m) z) (ez X m Z m).1 (ez X m Z m).2 (3 * m) := by
  unfold safeN nestedF
  rw [rootsL_length, show m + 1 - 1 = m by omega]
  have T := (roots_exact hX hm h).1 m
  rw [catF_in, show 3 * (m - m) = 3 * 0 by omega] at T
  exact horner_exact hX hm h hz hZ m 0 (by omega) _ T
/-- At a root it is 0. -/
theorem root_value {L : List C2} {X : Nat → Int × Int} (hX : ∀ i, nz (X i) ≤ 24) {m : Nat} (hm : m ≤ 4) (h : ∀ i, i < m → Gr (L.getD i (0, 0)) (X i).1 (X i).2 3) {i : Nat} (hi : i < m) :
    safeN (rootsL L m) (L.getD i (0, 0)) ∧ Gr (nestedF (rootsL L m) (L.getD i (0, 0))) 0 0 (3 * m) := by
  have := value_exact hX hm h (h i hi) (hX i)
  rw [ez_root X m i hi] at this
  exact this
end Go.Proofs.YtdnoilcfgicnnaaGreat

/- The polynomial of up to four drawn roots. Conditions: roots as they are drawn. -/
namespace Go.Proofs.YtdnoilcfgicnnaaGreat
open Go
set_option linter.unusedSimpArgs false
set_option linter.unusedVariables false

/-- The eighths of the drawn roots. -/
structure DX (ls : List C2) (X : Nat → Int × Int) : Prop where
  b : ∀ i, nz (X i) ≤ 24
  g : ∀ i, i < ls.length → Gr ((ls.map nc).getD i (0, 0)) (X i).1 (X i).2 3
  x : ∀ i, i < ls.length → 8 * (i : Int) - 12 ≤ (X i).1 ∧ (X i).1 ≤ 8 * (i : Int) - 8
  y : ∀ i, i < ls.length → -8 ≤ (X i).2 ∧ (X i).2 ≤ 8
theorem DL.ex {ls : List C2} (h : DL ls) (h4 : ls.length ≤ 4) : ∃ X, DX ls X := by
  have hc : ∀ i : Nat, ∃ u : Int × Int, nz u ≤ 24 ∧ (i < ls.length → Gr ((ls.map nc).getD i (0, 0)) u.1 u.2 3 ∧ (8 * (i : Int) - 12 ≤ u.1 ∧ u.1 ≤ 8 * (i : Int) - 8) ∧ -8 ≤ u.2 ∧ u.2 ≤ 8) := by
    intro i
    by_cases hi : i < ls.length
    · obtain ⟨x, y, g, a, b, c, d⟩ := h.d i hi
      refine ⟨(x, y), by unfold nz; simp only; omega, fun _ => ⟨by rw [getD_nc]; exact g, ⟨a, b⟩, c, d⟩⟩
    · exact ⟨(0, 0), by decide, fun hh => absurd hh hi⟩
  have hn : ∀ n : Nat, ∃ X : Nat → Int × Int, (∀ i, nz (X i) ≤ 24) ∧ ∀ i, i < n → (i < ls.length → Gr ((ls.map nc).getD i (0, 0)) (X i).1 (X i).2 3 ∧ (8 * (i : Int) - 12 ≤ (X i).1 ∧ (X i).1 ≤ 8 * (i : Int) - 8) ∧ -8 ≤ (X i).2 ∧ (X i).2 ≤ 8) := by
    intro n
    induction n with
    | zero => exact ⟨fun _ => (0, 0), fun _ => (by decide : nz (0, 0) ≤ 24), fun i hi => absurd hi (by omega)⟩
    | succ n ih =>
      obtain ⟨X, hX1, hX2⟩ := ih
      obtain ⟨u, hu1, hu2⟩ := hc n
      refine ⟨fun i => if i = n then u else X i, fun i => ?_, fun i hi => ?_⟩
      · by_cases h : i = n
        · simp only [if_pos h]; exact hu1
        · simp only [if_neg h]; exact hX1 i
      · by_cases h : i = n
        · subst h; simp only [if_true]; exact hu2
        · simp only [if_neg h]; exact hX2 i (by omega)
  obtain ⟨X, hX1, hX2⟩ := hn ls.length
  exact ⟨X, hX1, fun i hi => (hX2 i hi hi).1, fun i hi => (hX2 i hi hi).2.1, fun i hi => (hX2 i hi hi).2.2⟩
theorem cz_top (X : Nat → Int × Int) (m : Nat) : cz X m m = (1, 0) := by
  induction m with
  | zero => rfl
  | succ m ih => rw [cz, if_neg (by omega), cz_over X m (m + 1) (by omega), show m + 1 - 1 = m by omega, ih]; simp [zs, zm]
/-- The polynomial is valid, has roots, and its terms are those of the exact product. -/
theorem DX.poly {ls : List C2} {X : Nat → Int × Int} (h : DX ls X) (h1 : 1 ≤ ls.length) (h4 : ls.length ≤ 4) :
    safeRoots (ls.map nc) ∧ polyF (rootsL (ls.map nc) ls.length) = (rootsL (ls.map nc) ls.length, true) ∧ rootedF (rootsL (ls.map nc) ls.length) = true := by
  obtain ⟨e1', e2'⟩ := roots_exact h.b h4 h.g
  refine ⟨fun i hi k hk => ?_, ?_⟩
  · rw [List.length_map] at hi
    have := e2' i hi k hk
    exact this
  · have htop := e1' ls.length
    rw [cz_top, show 3 * (ls.length - ls.length) = 0 by omega] at htop
    refine poly_full (w := catF (rootsL (ls.map nc) ls.length) ls.length) (by rw [rootsL_length]; omega) ?_ ?_ htop
    · rw [List.all_eq_true]
      intro x hx
      obtain ⟨i, hi, rfl⟩ := List.getElem_of_mem hx
      have := finG (e1' i)
      rw [catF_in] at this
      rwa [show (rootsL (ls.map nc) ls.length).getD i (0, 0) = (rootsL (ls.map nc) ls.length)[i] by simp [List.getD, hi]] at this
    · rw [rootsL_length, catF_in, show ls.length + 1 - 1 = ls.length by omega]
end Go.Proofs.YtdnoilcfgicnnaaGreat
