/- The turns around the great box are as many as the roots, nearly; around the box away none. Conditions: up to four drawn roots. -/
import Derived.Test.YtklonahkacikbaaU24
namespace Go.Proofs.Ytklonahkacikbaa
open Go
set_option linter.unusedSimpArgs false
set_option linter.unusedVariables false

theorem sumN_swap (f : Nat → Nat → Rat) (m n : Nat) : sumN (fun i => sumN (fun j => f i j) n) m = sumN (fun j => sumN (fun i => f i j) m) n := by
  induction n with
  | zero =>
    show sumN (fun _ => 0) m = 0
    induction m with
    | zero => rfl
    | succ m ih => show sumN (fun _ => 0) m + 0 = 0; rw [ih]; grind
  | succ n ih =>
    show sumN (fun i => sumN (fun j => f i j) n + f i n) m = sumN (fun j => sumN (fun i => f i j) m) n + sumN (fun i => f i n) m
    rw [sumN_add, ih]
theorem bvs_bps {F : List C2} {lo hi : C2} {st : Nat} (hf : bpt lo hi st 0 0 = lo) (i : Nat) : bvs F lo hi st i = nestedF F (bps lo hi st i) := by
  unfold bvs bps bval
  split
  · rfl
  · rw [Nat.zero_div, Nat.zero_mod, hf]
/-- What is known of the points of a walk. -/
structure PtsOk (X : Nat → Int × Int) (n : Nat) (F : List C2) (lo hi : C2) (ρ : Rat) (t : Nat → Nat → Rat) : Prop where
  first : bpt lo hi 40 0 0 = lo
  v : ∀ i, i < 161 → ValOk F (bps lo hi 40 i)
  ρ1 : 1 ≤ ρ
  err : ∀ i, i < 161 → N (cv (nestedF F (bps lo hi 40 i)) - pv X n (cv (bps lo hi 40 i))) ≤ 41 / 1000000 * ρ
  lb : ∀ i, i < 161 → Lb (pv X n (cv (bps lo hi 40 i))) ρ
  r1 : ∀ i, i < 160 → sqN (pv X n (cv (bps lo hi 40 (i + 1)))) ≤ 17 / 10 * sqN (pv X n (cv (bps lo hi 40 i)))
  r2 : ∀ i, i < 160 → sqN (pv X n (cv (bps lo hi 40 i))) ≤ 17 / 10 * sqN (pv X n (cv (bps lo hi 40 (i + 1))))
  tan : ∀ i, i < 160 → ∀ j, j < n → Tan (gq X (cv (bps lo hi 40 (i + 1))) j * cj (gq X (cv (bps lo hi 40 i)) j)) (t i j) ∧ A (t i j) ≤ 668 / 10000
def angV (F : List C2) (lo hi : C2) (i : Nat) : Rat := vN .f32 (angF (bqt F lo hi 40 i).2 (bqt F lo hi 40 i).1)
section
variable {X : Nat → Int × Int} {n : Nat} {F : List C2} {lo hi : C2} {ρ : Rat} {t : Nat → Nat → Rat}
theorem PtsOk.ang (h : PtsOk X n F lo hi ρ t) (h4 : n ≤ 4) {i : Nat} (hi' : i < 160) : A (kapR * angV F lo hi i - sumN (fun j => T5 (t i j)) n) ≤ 321 / 1000000 := by
  obtain ⟨C, c1, c2, c3⟩ := turn_prod n h4 (h.tan i hi')
  have cb : cB n ≤ 275 / 1000 ∧ eB n ≤ 4 / 100000 := (show ∀ n, n < 5 → cB n ≤ 275 / 1000 ∧ eB n ≤ 4 / 100000 by decide +kernel) n (by omega)
  have va := h.v i (by omega)
  have vb := h.v (i + 1) (by omega)
  obtain ⟨c, s1, s2, s3⟩ := step_core va.fv vb.fv h.ρ1 (h.err i (by omega)) (h.err (i + 1) (by omega)) (h.lb i (by omega)) (h.lb (i + 1) (by omega)) (h.r1 i hi') (h.r2 i hi') va.lo va.hi vb.hi c1 (Rat.le_trans c2 cb.1)
  obtain ⟨q1, q2, q3, q4⟩ := valq va vb
  have e : bqt F lo hi 40 i = quoC (nestedF F (bps lo hi 40 (i + 1))) (nestedF F (bps lo hi 40 i)) := by unfold bqt; rw [bvs_bps h.first, bvs_bps h.first]
  unfold angV
  rw [e]
  obtain ⟨_, an⟩ := ang_near q2 q3 q4 s1 s2
  have s := abs_a (abs_a an s3) c3
  rw [show kapR * vN .f32 (angF (quoC (nestedF F (bps lo hi 40 (i + 1))) (nestedF F (bps lo hi 40 i))).2 (quoC (nestedF F (bps lo hi 40 (i + 1))) (nestedF F (bps lo hi 40 i))).1) - T5 c + (T5 c - T5 C) + (T5 C - sumN (fun j => T5 (t i j)) n) = kapR * vN .f32 (angF (quoC (nestedF F (bps lo hi 40 (i + 1))) (nestedF F (bps lo hi 40 i))).2 (quoC (nestedF F (bps lo hi 40 (i + 1))) (nestedF F (bps lo hi 40 i))).1) - sumN (fun j => T5 (t i j)) n by grind] at s
  have := cb.2
  grind
/-- The float sum is near the sum. -/
theorem PtsOk.sum (h : PtsOk X n F lo hi ρ t) (i : Nat) (hi' : i ≤ 160) : fN .f32 (turnS F lo hi 40 i) = true ∧ A (vN .f32 (turnS F lo hi 40 i)) ≤ (i : Rat) * (51 / 100) ∧ A (vN .f32 (turnS F lo hi 40 i) - sumN (angV F lo hi) i) ≤ (i : Rat) * (1 / 200000) := by
  have hq : ∀ i, i < 160 → fC (bqt F lo hi 40 i) ∧ A (cv (bqt F lo hi 40 i)).re < p2 1023 ∧ A (cv (bqt F lo hi 40 i)).im < p2 1023 := by
    intro i hi'
    have e : bqt F lo hi 40 i = quoC (nestedF F (bps lo hi 40 (i + 1))) (nestedF F (bps lo hi 40 i)) := by unfold bqt; rw [bvs_bps h.first, bvs_bps h.first]
    rw [e]
    exact (valq (h.v i (by omega)) (h.v (i + 1) (by omega))).2
  induction i with
  | zero => exact ⟨(show fN .f32 0 = true by decide +kernel), (show A (vN .f32 0) ≤ ((0 : Nat) : Rat) * (51 / 100) by decide +kernel), (show A (vN .f32 0 - 0) ≤ ((0 : Nat) : Rat) * (1 / 200000) by decide +kernel)⟩
  | succ i ih =>
    obtain ⟨s1, s2, s3⟩ := ih (by omega)
    obtain ⟨c1, c2, c3⟩ := hq i (by omega)
    obtain ⟨a1, a2⟩ := angF_ok c1.2 c1.1 c3 c2
    have ea : angV F lo hi i = vN .f32 (angF (bqt F lo hi 40 i).2 (bqt F lo hi 40 i).1) := rfl
    have es : turnS F lo hi 40 (i + 1) = fop .add .f32 (turnS F lo hi 40 i) (angF (bqt F lo hi 40 i).2 (bqt F lo hi 40 i).1) := rfl
    have eS : sumN (angV F lo hi) (i + 1) = sumN (angV F lo hi) i + angV F lo hi i := rfl
    rw [es, eS, ea]
    generalize angF (bqt F lo hi 40 i).2 (bqt F lo hi 40 i).1 = a at *
    generalize turnS F lo hi 40 i = s at *
    generalize sumN (angV F lo hi) i = S at *
    have i0 : (i : Rat) ≤ ((160 : Nat) : Rat) := by exact_mod_cast (by omega : i ≤ 160)
    have c160 : ((160 : Nat) : Rat) = 160 := rfl
    have q0 := abs_a s2 a2
    have q1 : A (vN .f32 s + vN .f32 a) ≤ 83 := by grind
    have R := near1_res (fop_add_res s1 a1 (lt_of_p2 (a := 10) (Rat.le_trans q1 (by decide +kernel)) (by decide)))
    have k : u1 * 83 + p2 (-149) ≤ 1 / 200000 := by decide +kernel
    have e : A (vN .f32 (fop .add .f32 s a) - (vN .f32 s + vN .f32 a)) ≤ 1 / 200000 := by
      have m := Rat.mul_le_mul_of_nonneg_left q1 (Rat.le_of_lt u1_pos)
      exact Rat.le_trans R.2 (Rat.le_trans (by generalize u1 = u at *; generalize p2 (-149) = w at *; clear k; grind) k)
    have t1 := abs_a e q0
    rw [show vN .f32 (fop .add .f32 s a) - (vN .f32 s + vN .f32 a) + (vN .f32 s + vN .f32 a) = vN .f32 (fop .add .f32 s a) by grind] at t1
    have t2 := abs_a e s3
    rw [show vN .f32 (fop .add .f32 s a) - (vN .f32 s + vN .f32 a) + (vN .f32 s - S) = vN .f32 (fop .add .f32 s a) - (S + vN .f32 a) by grind] at t2
    rw [Rat.natCast_add, show ((1 : Nat) : Rat) = 1 from rfl]
    exact ⟨R.1, by grind, by grind⟩
/-- All turns. -/
theorem PtsOk.turns (h : PtsOk X n F lo hi ρ t) (h4 : n ≤ 4) : A (kapR * sumN (angV F lo hi) 160 - sumN (fun j => sumN (fun i => T5 (t i j)) 160) n) ≤ 52 / 1000 := by
  have s := sumN_near (f := fun i => kapR * angV F lo hi i) (g := fun i => sumN (fun j => T5 (t i j)) n) (e := 321 / 1000000) 160 (fun i hi' => h.ang h4 hi')
  rw [sumN_mul, sumN_swap] at s
  exact Rat.le_trans s (by decide +kernel)
end
/-- The points of the great box. -/
theorem great_pts : ∀ i, i < 161 → vN .f32 (bps (bx 0 0 8).1 (bx 0 0 8).2 40 i).1 = ((bxP i).1 : Rat) * p2 (-21) ∧ vN .f32 (bps (bx 0 0 8).1 (bx 0 0 8).2 40 i).2 = ((bxP i).2 : Rat) * p2 (-21) := by decide +kernel
theorem great_edge : ∀ i, i < 161 → (bxP i).1 ≤ -16842752 ∨ 16908288 ≤ (bxP i).1 ∨ (bxP i).2 ≤ -16809984 ∨ 16973824 ≤ (bxP i).2 := by decide +kernel
theorem great_size : ∀ i, i < 161 → (bxP i).1.natAbs + (bxP i).2.natAbs ≤ 33973862 := by decide +kernel
theorem great_step : ∀ i, i < 160 → ((bxP (i + 1)).1 - (bxP i).1).natAbs + ((bxP (i + 1)).2 - (bxP i).2).natAbs ≤ 845152 := by decide +kernel
theorem great_tab : ∀ n, n < 5 → TabL n (81 / 5) ∧ ud * pB n (81 / 5) n ≤ 41 / 1000000 * 6 ^ n ∧ ((1 + 68 / 1000) * (1 + 68 / 1000)) ^ n ≤ (17 / 10 : Rat) ∧ (1 : Rat) ≤ 6 ^ n := by unfold TabL; decide +kernel
theorem prd_pow (r : Rat) (n : Nat) : prd (fun _ => r) n = r ^ n := by
  induction n with
  | zero => rw [Rat.pow_zero]; rfl
  | succ n ih => show r * prd (fun _ => r) n = _; rw [ih, Rat.pow_succ]; grind
theorem great_cv {i : Nat} (hi : i < 161) : cv (bps (bx 0 0 8).1 (bx 0 0 8).2 40 i) = ⟨((bxP i).1 : Rat) * p2 (-21), ((bxP i).2 : Rat) * p2 (-21)⟩ := q2e (great_pts i hi).1 (great_pts i hi).2
theorem gq_int (X : Nat → Int × Int) (x y : Int) (j : Nat) : gq X ⟨(x : Rat) * p2 (-21), (y : Rat) * p2 (-21)⟩ j = ⟨((x - (X j).1 * 262144 : Int) : Rat) * p2 (-21), ((y - (X j).2 * 262144 : Int) : Rat) * p2 (-21)⟩ := by
  have e : p2 (-3) = 262144 * p2 (-21) := by decide +kernel
  have c : ((262144 : Int) : Rat) = 262144 := rfl
  refine q2e ?_ ?_
  · show (x : Rat) * p2 (-21) - ((X j).1 : Rat) * p2 (-3) = _
    rw [e, Rat.intCast_sub, Rat.intCast_mul, c]; grind
  · show (y : Rat) * p2 (-21) - ((X j).2 : Rat) * p2 (-3) = _
    rw [e, Rat.intCast_sub, Rat.intCast_mul, c]; grind
theorem natAbs_cast (a : Int) : A (a : Rat) = ((a.natAbs : Nat) : Rat) := by
  unfold A
  rw [← Rat.intCast_natCast]
  split
  · rename_i h
    have : 0 ≤ a := by exact_mod_cast h
    rw [show ((a.natAbs : Nat) : Int) = a by omega]
  · rename_i h
    have : ¬ 0 ≤ a := fun h' => h (by exact_mod_cast h')
    rw [show ((a.natAbs : Nat) : Int) = -a by omega, Rat.intCast_neg]
theorem N_int (x y : Int) : N (⟨(x : Rat) * p2 (-21), (y : Rat) * p2 (-21)⟩ : Q2) = ((x.natAbs + y.natAbs : Nat) : Rat) * p2 (-21) := by
  unfold N
  simp only
  rw [A_mul, A_mul, natAbs_cast, natAbs_cast, A_of_nonneg (Rat.le_of_lt (p2_pos (-21))), Rat.natCast_add]
  grind
section
variable {ls : List C2} {X : Nat → Int × Int}
theorem DX.greatLb (h : DX ls X) {i j : Nat} (hi : i < 161) (hj : j < ls.length) (h4 : ls.length ≤ 4) : Lb (gq X (cv (bps (bx 0 0 8).1 (bx 0 0 8).2 40 i)) j) 6 := by
  rw [great_cv hi, gq_int]
  obtain ⟨a, b⟩ := h.x j hj
  obtain ⟨c, d⟩ := h.y j hj
  have key : ∀ w : Int, 12582912 ≤ w.natAbs → (6 : Rat) ≤ A ((w : Rat) * p2 (-21)) := by
    intro w hw
    rw [A_mul, natAbs_cast, A_of_nonneg (Rat.le_of_lt (p2_pos (-21)))]
    have h1 : ((12582912 : Nat) : Rat) ≤ ((w.natAbs : Nat) : Rat) := by exact_mod_cast hw
    have h2 := Rat.mul_le_mul_of_nonneg_right h1 (Rat.le_of_lt (p2_pos (-21)))
    have h3 : (6 : Rat) ≤ ((12582912 : Nat) : Rat) * p2 (-21) := by decide +kernel
    exact Rat.le_trans h3 h2
  rcases great_edge i hi with e | e | e | e
  · exact Lb.of_re (by decide +kernel) (key _ (by omega))
  · exact Lb.of_re (by decide +kernel) (key _ (by omega))
  · exact Lb.of_im (by decide +kernel) (key _ (by omega))
  · exact Lb.of_im (by decide +kernel) (key _ (by omega))
theorem DX.greatPts (h : DX ls X) (h1 : 1 ≤ ls.length) (h4 : ls.length ≤ 4) : PtsOk X ls.length (rootsL (ls.map nc) ls.length) (bx 0 0 8).1 (bx 0 0 8).2 (6 ^ ls.length) (fun i j => tJ ((X j).1 * 262144) ((X j).2 * 262144) (bxP i) (bxP (i + 1))) := by
  obtain ⟨t1, t2, t3, t4⟩ := great_tab ls.length (by omega)
  have first : bpt (bx 0 0 8).1 (bx 0 0 8).2 40 0 0 = (bx 0 0 8).1 := Prod.ext first40.1 first40.2
  have pt : ∀ i, i < 161 → ValOk (rootsL (ls.map nc) ls.length) (bps (bx 0 0 8).1 (bx 0 0 8).2 40 i) := by
    intro i hi
    have P := fun s k hs hk => h.pts h1 h4 (lo := (bx 0 0 8).1) (hi := (bx 0 0 8).2) (xw_ok 0 (by decide)) (xw_ok 8 (by decide)) (yw_ok 0 (by decide)) (yw_ok 8 (by decide)) (st := 40) (.inl rfl) s k hs hk
    unfold bps
    split
    · exact P _ _ (by omega) (by omega)
    · have := P 0 0 (by decide) (by decide)
      rwa [first] at this
  have sz : ∀ i, i < 161 → N (cv (bps (bx 0 0 8).1 (bx 0 0 8).2 40 i)) ≤ 81 / 5 := by
    intro i hi
    rw [great_cv hi, N_int]
    have h1 : (((bxP i).1.natAbs + (bxP i).2.natAbs : Nat) : Rat) ≤ ((33973862 : Nat) : Rat) := by exact_mod_cast great_size i hi
    have h2 := Rat.mul_le_mul_of_nonneg_right h1 (Rat.le_of_lt (p2_pos (-21)))
    exact Rat.le_trans h2 (by decide +kernel)
  have lb : ∀ i, i < 161 → Lb (pv X ls.length (cv (bps (bx 0 0 8).1 (bx 0 0 8).2 40 i))) (6 ^ ls.length) := by
    intro i hi
    have := prd_lb (X := X) (z := cv (bps (bx 0 0 8).1 (bx 0 0 8).2 40 i)) (d := fun _ => 6) (n := ls.length) (fun j hj => h.greatLb hi hj h4)
    rwa [prd_pow] at this
  have dN : ∀ i, i < 160 → N (cv (bps (bx 0 0 8).1 (bx 0 0 8).2 40 (i + 1)) - cv (bps (bx 0 0 8).1 (bx 0 0 8).2 40 i)) ≤ 403 / 1000 := by
    intro i hi
    rw [great_cv (show i < 161 by omega), great_cv (show i + 1 < 161 by omega)]
    have e : (⟨((bxP (i + 1)).1 : Rat) * p2 (-21), ((bxP (i + 1)).2 : Rat) * p2 (-21)⟩ - ⟨((bxP i).1 : Rat) * p2 (-21), ((bxP i).2 : Rat) * p2 (-21)⟩ : Q2) = ⟨(((bxP (i + 1)).1 - (bxP i).1 : Int) : Rat) * p2 (-21), (((bxP (i + 1)).2 - (bxP i).2 : Int) : Rat) * p2 (-21)⟩ := by
      refine q2e ?_ ?_ <;> (simp only [re_sub, im_sub, Rat.intCast_sub]; grind)
    rw [e, N_int]
    have h1 : ((((bxP (i + 1)).1 - (bxP i).1).natAbs + ((bxP (i + 1)).2 - (bxP i).2).natAbs : Nat) : Rat) ≤ ((845152 : Nat) : Rat) := by exact_mod_cast great_step i hi
    have h2 := Rat.mul_le_mul_of_nonneg_right h1 (Rat.le_of_lt (p2_pos (-21)))
    exact Rat.le_trans h2 (by decide +kernel)
  have pos : ∀ z : Q2, 0 ≤ sqN z := sqN_nonneg
  refine ⟨first, pt, t4, fun i hi => ?_, lb, fun i hi => ?_, fun i hi => ?_, fun i hi j hj => ?_⟩
  · exact Rat.le_trans (h.value h1 h4 t1 (pt i hi).f (sz i hi)).2.2.1 t2
  · have r := ratio (X := X) (r := 6) (k := 68 / 1000) (by decide +kernel) (dN i hi) (by decide +kernel) ls.length (fun j hj => h.greatLb (show i < 161 by omega) hj h4)
    exact Rat.le_trans r (Rat.mul_le_mul_of_nonneg_right t3 (pos _))
  · have r := ratio (X := X) (r := 6) (k := 68 / 1000) (z := cv (bps (bx 0 0 8).1 (bx 0 0 8).2 40 (i + 1))) (z' := cv (bps (bx 0 0 8).1 (bx 0 0 8).2 40 i)) (by decide +kernel) (by rw [N_comm]; exact dN i hi) (by decide +kernel) ls.length (fun j hj => h.greatLb (show i + 1 < 161 by omega) hj h4)
    exact Rat.le_trans r (Rat.mul_le_mul_of_nonneg_right t3 (pos _))
  · obtain ⟨a, b⟩ := h.x j hj
    obtain ⟨c, d⟩ := h.y j hj
    have ok := (turn_of (k := j) (by omega) a b c d).1 i hi
    obtain ⟨o1, o2, o3⟩ := ok.tan
    refine ⟨?_, by rw [A_of_nonneg o2]; exact o3⟩
    rw [great_cv (show i < 161 by omega), great_cv (show i + 1 < 161 by omega), gq_int, gq_int]
    have dp : (0 : Rat) < (tJ2 ((X j).1 * 262144) ((X j).2 * 262144) (bxP i).1 (bxP i).2 (bxP (i + 1)).1 (bxP (i + 1)).2 : Rat) := by rw [show (0 : Rat) = ((0 : Int) : Rat) from rfl]; exact Rat.intCast_lt_intCast.2 ok.d
    have e1 : tJ2 ((X j).1 * 262144) ((X j).2 * 262144) (bxP i).1 (bxP i).2 (bxP (i + 1)).1 (bxP (i + 1)).2 = ((bxP (i + 1)).1 - (X j).1 * 262144) * ((bxP i).1 - (X j).1 * 262144) + ((bxP (i + 1)).2 - (X j).2 * 262144) * ((bxP i).2 - (X j).2 * 262144) := rfl
    have e2 : tJ1 ((X j).1 * 262144) ((X j).2 * 262144) (bxP i).1 (bxP i).2 (bxP (i + 1)).1 (bxP (i + 1)).2 = ((bxP (i + 1)).2 - (X j).2 * 262144) * ((bxP i).1 - (X j).1 * 262144) - ((bxP (i + 1)).1 - (X j).1 * 262144) * ((bxP i).2 - (X j).2 * 262144) := rfl
    have pp := p2_pos (-21)
    have p2p : 0 < p2 (-21) * p2 (-21) := Rat.mul_pos pp pp
    have mp := Rat.mul_pos dp p2p
    rw [e1] at dp mp o1
    rw [e2] at o1
    clear e1 e2 o2 o3 ok
    generalize tJ ((X j).1 * 262144) ((X j).2 * 262144) (bxP i) (bxP (i + 1)) = tt at *
    generalize (bxP (i + 1)).1 - (X j).1 * 262144 = iu' at *
    generalize (bxP (i + 1)).2 - (X j).2 * 262144 = iv' at *
    generalize (bxP i).1 - (X j).1 * 262144 = iu at *
    generalize (bxP i).2 - (X j).2 * 262144 = iv at *
    simp only [Rat.intCast_add, Rat.intCast_mul, Rat.intCast_sub] at dp mp o1
    generalize (iu' : Rat) = u' at *
    generalize (iv' : Rat) = v' at *
    generalize (iu : Rat) = u at *
    generalize (iv : Rat) = v at *
    generalize p2 (-21) = e at *
    refine ⟨?_, ?_⟩
    · show 0 < u' * e * (u * e) - v' * e * -(v * e)
      grind
    · show tt * (u' * e * (u * e) - v' * e * -(v * e)) = u' * e * -(v * e) + v' * e * (u * e)
      rw [show u' * e * (u * e) - v' * e * -(v * e) = (u' * u + v' * v) * (e * e) by grind, ← Rat.mul_assoc, o1]
      grind
/-- The turns around the great box. -/
theorem DX.turns (h : DX ls X) (h1 : 1 ≤ ls.length) (h4 : ls.length ≤ 4) : A (vN .f32 (turnS (rootsL (ls.map nc) ls.length) (bx 0 0 8).1 (bx 0 0 8).2 40 160) - (ls.length : Rat)) ≤ 95 / 10000 := by
  have P := h.greatPts h1 h4
  obtain ⟨s1, s2, s3⟩ := P.sum 160 (Nat.le_refl _)
  have T := P.turns h4
  have sw : A (sumN (fun j => sumN (fun i => T5 (tJ ((X j).1 * 262144) ((X j).2 * 262144) (bxP i) (bxP (i + 1)))) 160) ls.length - sumN (fun _ => kap) ls.length) ≤ (ls.length : Rat) * (1 / 20000) := sumN_near ls.length (fun j hj => by
    obtain ⟨a, b⟩ := h.x j hj
    obtain ⟨c, d⟩ := h.y j hj
    exact (turn_of (k := j) (by omega) a b c d).2)
  have sk : ∀ n : Nat, sumN (fun _ => kap) n = (n : Rat) * kapR := by
    intro n
    induction n with
    | zero => show (0 : Rat) = ((0 : Nat) : Rat) * kapR; decide +kernel
    | succ n ih =>
      show sumN (fun _ => kap) n + kap = _
      rw [ih, Rat.natCast_add, show ((1 : Nat) : Rat) = 1 from rfl, show kap = kapR from rfl]; grind
  rw [sk] at sw
  have n4 : (ls.length : Rat) ≤ ((4 : Nat) : Rat) := by exact_mod_cast h4
  have c4 : ((4 : Nat) : Rat) = 4 := rfl
  have c160 : ((160 : Nat) : Rat) = 160 := rfl
  rw [c160] at s3
  rw [c4] at n4
  generalize sumN (fun j => sumN (fun i => T5 (tJ ((X j).1 * 262144) ((X j).2 * 262144) (bxP i) (bxP (i + 1)))) 160) ls.length = Z at *
  generalize sumN (angV (rootsL (ls.map nc) ls.length) (bx 0 0 8).1 (bx 0 0 8).2) 160 = Y at *
  have all := abs_a T sw
  rw [show kapR * Y - Z + (Z - (ls.length : Rat) * kapR) = kapR * (Y - (ls.length : Rat)) by grind, A_mul, A_of_nonneg (show 0 ≤ kapR by decide +kernel)] at all
  have k6 : (6283 : Rat) / 1000 ≤ kapR := by decide +kernel
  have m := Rat.mul_le_mul_of_nonneg_right k6 (A_nonneg (Y - (ls.length : Rat)))
  have yb : A (Y - (ls.length : Rat)) ≤ 84 / 10000 := by grind
  have f := abs_a s3 yb
  rw [show vN .f32 (turnS (rootsL (ls.map nc) ls.length) (bx 0 0 8).1 (bx 0 0 8).2 40 160) - Y + (Y - (ls.length : Rat)) = vN .f32 (turnS (rootsL (ls.map nc) ls.length) (bx 0 0 8).1 (bx 0 0 8).2 40 160) - (ls.length : Rat) by grind] at f
  exact Rat.le_trans f (by decide +kernel)
end
end Go.Proofs.Ytklonahkacikbaa
