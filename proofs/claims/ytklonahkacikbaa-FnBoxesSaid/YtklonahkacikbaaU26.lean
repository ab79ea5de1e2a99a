/- The counts of roots: all in the great box, none in the box away. Conditions: up to four drawn roots. -/
import Derived.Test.YtklonahkacikbaaU25
namespace Go.Proofs.Ytklonahkacikbaa
open Go
set_option linter.unusedSimpArgs false
set_option linter.unusedVariables false

def awl : C2 := (1101004800, 1101004800)
def awh : C2 := (1102053376, 1102053376)
theorem away_x : ∀ i, i < 161 → fN .f32 (bps awl awh 40 i).1 = true ∧ 20 ≤ vN .f32 (bps awl awh 40 i).1 ∧ vN .f32 (bps awl awh 40 i).1 ≤ 22 := by decide +kernel
theorem away_y : ∀ i, i < 161 → fN .f32 (bps awl awh 40 i).2 = true ∧ 20 ≤ vN .f32 (bps awl awh 40 i).2 ∧ vN .f32 (bps awl awh 40 i).2 ≤ 22 := by decide +kernel
theorem away_step : ∀ i, i < 160 → A (vN .f32 (bps awl awh 40 (i + 1)).1 - vN .f32 (bps awl awh 40 i).1) + A (vN .f32 (bps awl awh 40 (i + 1)).2 - vN .f32 (bps awl awh 40 i).2) ≤ 51 / 1000 := by decide +kernel
theorem away_box : boxF awl awh = true ∧ bpt awl awh 40 0 0 = awl := by decide +kernel
theorem away_tab : ∀ n, n < 5 → TabL n 44 ∧ ud * pB n 44 n ≤ 41 / 1000000 * 18 ^ n ∧ mB n 44 n + 41 / 1000000 * 18 ^ n ≤ p2 40 ∧ ((1 + 3 / 1000) * (1 + 3 / 1000)) ^ n ≤ (17 / 10 : Rat) ∧ (1 : Rat) ≤ 18 ^ n := by unfold TabL; decide +kernel
def tanQ (w : Q2) : Rat := w.im * (w.re)⁻¹
/-- The tangent of a small step. -/
theorem small_tan {g g' : Q2} (hd : N (g' - g) ≤ 51 / 1000) (hl : Lb g 18) : Tan (g' * cj g) (tanQ (g' * cj g)) ∧ A (tanQ (g' * cj g)) ≤ 31 / 10000 := by
  have s1 := sqN_le (g' - g)
  have s2 := mul_le hd hd (N_nonneg _) (by decide +kernel)
  have l2 := hl.2
  have S0 : 0 < sqN g := by grind
  have sp : sqN ((g' - g) * cj g) ≤ 3 / 1000 * sqN g * (3 / 1000 * sqN g) := by
    rw [sqN_mul, sqN_cj]
    have a1 : sqN (g' - g) ≤ 9 / 1000000 * sqN g := by grind
    have := Rat.mul_le_mul_of_nonneg_right a1 (Rat.le_of_lt S0)
    grind
  have e : g' * cj g = sc (sqN g) one2 + (g' - g) * cj g := by
    rw [← mul_cj]
    exact q2e (by simp; grind) (by simp; grind)
  generalize hp : (g' - g) * cj g = p at *
  have b0 : 0 ≤ 3 / 1000 * sqN g := by grind
  have pr : A p.re ≤ 3 / 1000 * sqN g := by
    refine sq_le_sq b0 ?_
    have i := sq_nonneg p.im
    rw [← sq_A]
    unfold sqN at sp ⊢
    grind
  have pim : A p.im ≤ 3 / 1000 * sqN g := by
    refine sq_le_sq b0 ?_
    have i := sq_nonneg p.re
    rw [← sq_A]
    unfold sqN at sp ⊢
    grind
  have re : (g' * cj g).re = sqN g + p.re := by rw [e]; simp [one2]; try grind
  have im : (g' * cj g).im = p.im := by rw [e]; simp [one2]; try grind
  have lp := le_A p.re
  have rp : 997 / 1000 * sqN g ≤ (g' * cj g).re := by rw [re]; grind
  have r0 : 0 < (g' * cj g).re := by grind
  have te : tanQ (g' * cj g) * (g' * cj g).re = (g' * cj g).im := by unfold tanQ; rw [Rat.mul_assoc, Rat.inv_mul_cancel _ (by grind), Rat.mul_one]
  refine ⟨⟨r0, te⟩, ?_⟩
  have ta : A (tanQ (g' * cj g)) * (g' * cj g).re = A p.im := by
    have := congrArg A te
    rw [A_mul, A_of_nonneg (Rat.le_of_lt r0), im] at this
    exact this
  have m := Rat.mul_le_mul_of_nonneg_left rp (A_nonneg (tanQ (g' * cj g)))
  refine lcancel_le S0 ?_
  grind
theorem T5_tiny {t : Rat} (h : A t ≤ 31 / 10000) : A (T5 t) ≤ 32 / 10000 := by
  have e : T5 t = t * (1 - t * t / 3 + t * t * (t * t) / 5) := by unfold T5; grind
  have tt := abs_m h h
  have t4 := abs_m tt tt
  have s := abs_a (abs_s (show A 1 ≤ 1 by decide +kernel) (abs_k (k := 1 / 3) (by decide +kernel) tt)) (abs_k (k := 1 / 5) (by decide +kernel) t4)
  rw [e, show t * t / 3 = 1 / 3 * (t * t) by grind, show t * t * (t * t) / 5 = 1 / 5 * (t * t * (t * t)) by grind]
  exact Rat.le_trans (abs_m h s) (by decide +kernel)
theorem sumN_le {f : Nat → Rat} {b : Rat} (n : Nat) (h : ∀ i, i < n → A (f i) ≤ b) : A (sumN f n) ≤ (n : Rat) * b := by
  have z : ∀ n : Nat, sumN (fun _ => 0) n = 0 := by
    intro n
    induction n with
    | zero => rfl
    | succ n ih => show sumN (fun _ => 0) n + 0 = 0; rw [ih]; grind
  have := sumN_near (f := f) (g := fun _ => 0) (e := b) n (fun i hi => by rw [show f i - 0 = f i by grind]; exact h i hi)
  rw [z, show sumN f n - 0 = sumN f n by grind] at this
  exact this
/-- The count, of turns that are nearly whole. -/
theorem cnt_eq {s : Nat} {m : Int} (h : fN .f32 s = true) (hA : A (vN .f32 s) ≤ 130) (hm : A (vN .f32 s - (m : Rat)) ≤ 4 / 10) : cntI s = m := by
  obtain ⟨c1, c2, c3, c4, c5, c6, c7, c8, c9, c10⟩ := cnt_ok h hA
  have a := le_A (vN .f32 (fop .add .f32 s (nrm .f32 1056964608)) - (vN .f32 s + 1 / 2))
  have b := le_A (vN .f32 s - (m : Rat))
  generalize vN .f32 (fop .add .f32 s (nrm .f32 1056964608)) = x at *
  have e1 : ((cntI s : Int) : Rat) < ((m + 1 : Int) : Rat) := by
    rw [Rat.intCast_add, show ((1 : Int) : Rat) = 1 from rfl]; grind
  have e2 : (((m : Int)) : Rat) < ((cntI s + 1 : Int) : Rat) := by
    rw [Rat.intCast_add, show ((1 : Int) : Rat) = 1 from rfl]; grind
  have f1 := Rat.intCast_lt_intCast.1 e1
  have f2 := Rat.intCast_lt_intCast.1 e2
  omega
section
variable {ls : List C2} {X : Nat → Int × Int}
theorem DX.awayLb (h : DX ls X) {i j : Nat} (hi : i < 161) (hj : j < ls.length) (h4 : ls.length ≤ 4) : Lb (gq X (cv (bps awl awh 40 i)) j) 18 := by
  obtain ⟨a, b⟩ := h.x j hj
  have b1 : ((X j).1 : Rat) ≤ ((16 : Int) : Rat) := Rat.intCast_le_intCast.2 (by omega)
  have c16 : ((16 : Int) : Rat) = 16 := rfl
  have x := (away_x i hi).2.1
  refine Lb.of_re (by decide +kernel) ?_
  have e : (gq X (cv (bps awl awh 40 i)) j).re = vN .f32 (bps awl awh 40 i).1 - ((X j).1 : Rat) * p2 (-3) := rfl
  rw [e, p2m3]
  have := le_A (vN .f32 (bps awl awh 40 i).1 - ((X j).1 : Rat) * (1 / 8))
  grind
theorem DX.awayVal (h : DX ls X) (h1 : 1 ≤ ls.length) (h4 : ls.length ≤ 4) {i : Nat} (hi : i < 161) : Lb (pv X ls.length (cv (bps awl awh 40 i))) (18 ^ ls.length) ∧ ValOk (rootsL (ls.map nc) ls.length) (bps awl awh 40 i) ∧ N (cv (nestedF (rootsL (ls.map nc) ls.length) (bps awl awh 40 i)) - pv X ls.length (cv (bps awl awh 40 i))) ≤ 41 / 1000000 * 18 ^ ls.length := by
  obtain ⟨t1, t2, t3, t4, t5⟩ := away_tab ls.length (by omega)
  obtain ⟨x1, x2, x3⟩ := away_x i hi
  obtain ⟨y1, y2, y3⟩ := away_y i hi
  have fz : fC (bps awl awh 40 i) := ⟨x1, y1⟩
  have nz : N (cv (bps awl awh 40 i)) ≤ 44 := by
    show A (vN .f32 _) + A (vN .f32 _) ≤ _
    rw [A_of_nonneg (by grind), A_of_nonneg (by grind)]
    grind
  have lb : Lb (pv X ls.length (cv (bps awl awh 40 i))) (18 ^ ls.length) := by
    have := prd_lb (X := X) (z := cv (bps awl awh 40 i)) (d := fun _ => 18) (n := ls.length) (fun j hj => h.awayLb hi hj h4)
    rwa [prd_pow] at this
  obtain ⟨v1, v2, v3, v4⟩ := h.value h1 h4 t1 fz nz
  have er := Rat.le_trans v3 t2
  have nt := N_tri (cv (nestedF (rootsL (ls.map nc) ls.length) (bps awl awh 40 i))) (pv X ls.length (cv (bps awl awh 40 i)))
  have nt2 := N_tri (pv X ls.length (cv (bps awl awh 40 i))) (cv (nestedF (rootsL (ls.map nc) ls.length) (bps awl awh 40 i)))
  rw [N_comm] at nt2
  have l := lb.N
  refine ⟨lb, ⟨fz, v1, v2, ?_, ?_⟩, er⟩
  · clear t1 t2 t3 t4 v3 v4 nt
    generalize (18 : Rat) ^ ls.length = w at *
    grind
  · clear t1 t2 t4 v3 nt2 l
    generalize (18 : Rat) ^ ls.length = w at *
    generalize p2 40 = w2 at *
    grind
theorem DX.away (h : DX ls X) (h1 : 1 ≤ ls.length) (h4 : ls.length ≤ 4) : BoxOk (rootsL (ls.map nc) ls.length) awl awh 40 := by
  obtain ⟨q1, q2, q3⟩ := h.poly h1 h4
  have hv : validF (rootsL (ls.map nc) ls.length) = true := by
    unfold rootedF at q3
    rw [Bool.and_eq_true] at q3
    exact q3.1
  refine boxOk_of hv q3 away_box.1 (by omega) (by omega) away_box.2 (fun s k hs hk => ?_)
  have := (h.awayVal h1 h4 (i := 40 * s + k) (by omega)).2.1
  rwa [bps_at awl awh hs hk] at this
theorem DX.awayPts (h : DX ls X) (h1 : 1 ≤ ls.length) (h4 : ls.length ≤ 4) : PtsOk X ls.length (rootsL (ls.map nc) ls.length) awl awh (18 ^ ls.length) (fun i j => tanQ (gq X (cv (bps awl awh 40 (i + 1))) j * cj (gq X (cv (bps awl awh 40 i)) j))) := by
  obtain ⟨t1, t2, t3, t4, t5⟩ := away_tab ls.length (by omega)
  have V := fun i hi => h.awayVal h1 h4 (i := i) hi
  have dN : ∀ i, i < 160 → N (cv (bps awl awh 40 (i + 1)) - cv (bps awl awh 40 i)) ≤ 51 / 1000 := fun i hi => away_step i hi
  refine ⟨away_box.2, fun i hi => (V i hi).2.1, t5, fun i hi => (V i hi).2.2, fun i hi => (V i hi).1, fun i hi => ?_, fun i hi => ?_, fun i hi j hj => ?_⟩
  · have r := ratio (X := X) (r := 18) (k := 3 / 1000) (by decide +kernel) (dN i hi) (by decide +kernel) ls.length (fun j hj => h.awayLb (show i < 161 by omega) hj h4)
    exact Rat.le_trans r (Rat.mul_le_mul_of_nonneg_right t4 (sqN_nonneg _))
  · have r := ratio (X := X) (r := 18) (k := 3 / 1000) (z := cv (bps awl awh 40 (i + 1))) (z' := cv (bps awl awh 40 i)) (by decide +kernel) (by rw [N_comm]; exact dN i hi) (by decide +kernel) ls.length (fun j hj => h.awayLb (show i + 1 < 161 by omega) hj h4)
    exact Rat.le_trans r (Rat.mul_le_mul_of_nonneg_right t4 (sqN_nonneg _))
  · have e : gq X (cv (bps awl awh 40 (i + 1))) j - gq X (cv (bps awl awh 40 i)) j = cv (bps awl awh 40 (i + 1)) - cv (bps awl awh 40 i) := by unfold gq; exact q2e (by simp; grind) (by simp; grind)
    obtain ⟨a, b⟩ := small_tan (by rw [e]; exact dN i hi) (h.awayLb (i := i) (by omega) hj h4)
    exact ⟨a, Rat.le_trans b (by decide +kernel)⟩
theorem DX.awayTurns (h : DX ls X) (h1 : 1 ≤ ls.length) (h4 : ls.length ≤ 4) : A (vN .f32 (turnS (rootsL (ls.map nc) ls.length) awl awh 40 160)) ≤ 4 / 10 := by
  have P := h.awayPts h1 h4
  obtain ⟨s1, s2, s3⟩ := P.sum 160 (Nat.le_refl _)
  have T := P.turns h4
  have n4 : (ls.length : Rat) ≤ ((4 : Nat) : Rat) := by exact_mod_cast h4
  have c4 : ((4 : Nat) : Rat) = 4 := rfl
  have c160 : ((160 : Nat) : Rat) = 160 := rfl
  have B := sumN_le (f := fun j => sumN (fun i => T5 (tanQ (gq X (cv (bps awl awh 40 (i + 1))) j * cj (gq X (cv (bps awl awh 40 i)) j)))) 160) (b := 160 * (32 / 10000)) ls.length (fun j hj => by
    have := sumN_le (f := fun i => T5 (tanQ (gq X (cv (bps awl awh 40 (i + 1))) j * cj (gq X (cv (bps awl awh 40 i)) j)))) (b := 32 / 10000) 160 (fun i hi => by
      have e : gq X (cv (bps awl awh 40 (i + 1))) j - gq X (cv (bps awl awh 40 i)) j = cv (bps awl awh 40 (i + 1)) - cv (bps awl awh 40 i) := by unfold gq; exact q2e (by simp; grind) (by simp; grind)
      have st := away_step i hi
      exact T5_tiny (small_tan (by rw [e]; exact st) (h.awayLb (i := i) (by omega) hj h4)).2)
    rwa [c160] at this)
  rw [c160] at s3
  generalize sumN (fun j => sumN (fun i => T5 (tanQ (gq X (cv (bps awl awh 40 (i + 1))) j * cj (gq X (cv (bps awl awh 40 i)) j)))) 160) ls.length = Z at *
  generalize sumN (angV (rootsL (ls.map nc) ls.length) awl awh) 160 = Y at *
  have Zb : A Z ≤ 4 * (160 * (32 / 10000)) := by
    rw [c4] at n4
    have := Rat.mul_le_mul_of_nonneg_right n4 (show (0 : Rat) ≤ 160 * (32 / 10000) by decide +kernel)
    exact Rat.le_trans B this
  have all := abs_a T Zb
  rw [show kapR * Y - Z + Z = kapR * Y by grind, A_mul, A_of_nonneg (show 0 ≤ kapR by decide +kernel)] at all
  have k6 : (6283 : Rat) / 1000 ≤ kapR := by decide +kernel
  have m := Rat.mul_le_mul_of_nonneg_right k6 (A_nonneg Y)
  have yb : A Y ≤ 35 / 100 := by grind
  have f := abs_a s3 yb
  rw [show vN .f32 (turnS (rootsL (ls.map nc) ls.length) awl awh 40 160) - Y + Y = vN .f32 (turnS (rootsL (ls.map nc) ls.length) awl awh 40 160) by grind] at f
  exact Rat.le_trans f (by decide +kernel)
/-- The counts. -/
theorem DX.counts (h : DX ls X) (h1 : 1 ≤ ls.length) (h4 : ls.length ≤ 4) : cntR (ls.length : Int) (turnS (rootsL (ls.map nc) ls.length) (bx 0 0 8).1 (bx 0 0 8).2 40 (4 * 40)) = ((ls.length : Int), true) ∧ cntR (ls.length : Int) (turnS (rootsL (ls.map nc) ls.length) awl awh 40 (4 * 40)) = (0, true) := by
  have g := (h.great h1 h4).sum 160 (by decide)
  have a := (h.away h1 h4).sum 160 (by decide)
  have t := h.turns h1 h4
  have u := h.awayTurns h1 h4
  have c1 : cntI (turnS (rootsL (ls.map nc) ls.length) (bx 0 0 8).1 (bx 0 0 8).2 40 (4 * 40)) = (ls.length : Int) := cnt_eq g.1 g.2 (by rw [Rat.intCast_natCast]; exact Rat.le_trans t (by decide +kernel))
  have c2 : cntI (turnS (rootsL (ls.map nc) ls.length) awl awh 40 (4 * 40)) = 0 := cnt_eq a.1 a.2 (by rw [show ((0 : Int) : Rat) = 0 from rfl, show vN .f32 (turnS (rootsL (ls.map nc) ls.length) awl awh 40 (4 * 40)) - 0 = vN .f32 (turnS (rootsL (ls.map nc) ls.length) awl awh 40 160) by grind]; exact u)
  unfold cntR
  rw [c1, c2, if_pos ⟨by omega, by omega⟩, if_pos ⟨by omega, by omega⟩]
  exact ⟨rfl, rfl⟩
end
end Go.Proofs.Ytklonahkacikbaa
