/- Complex numbers of two float32, up to the bits of a NaN: sums, products, quotients, lengths, of the program and of the reference. Conditions: what is narrowed fits float32. -/
import Derived.Test.YtalfkkagbajjcaaZ1
import Derived.Laws.Externs
namespace Go.Proofs.Ytalfkkagbajjcaa
set_option linter.unusedSimpArgs false
set_option linter.unusedVariables false
open Go Go.RowKit

/-- The words of a complex number. -/
abbrev C2 := Nat × Nat
def nc (z : C2) : C2 := (nrm .f32 z.1, nrm .f32 z.2)
def cxv (z : C2) : Value := .complex .f32 z.1 z.2
theorem nc_nc (z : C2) : nc (nc z) = nc z := by simp [nc, nrm_nrm]

/-- A float32 as a float64; and back. -/
def wd (x : Nat) : Nat := nrm .f64 (fcvt .f32 .f64 x)
def nw (x : Nat) : Nat := nrm .f32 (fcvt .f64 .f32 x)
def fit1 (x : Nat) : Prop := fits .f64 .f32 x = true
abbrev fit2 (p : Nat × Nat) : Prop := fit1 p.1 ∧ fit1 p.2

def addC (x y : C2) : C2 := (fop .add .f32 x.1 y.1, fop .add .f32 x.2 y.2)
def subC (x y : C2) : C2 := (fop .sub .f32 x.1 y.1, fop .sub .f32 x.2 y.2)
def scaleC (x : C2) (b : Nat) : C2 := (fop .mul .f32 x.1 b, fop .mul .f32 x.2 b)
def timesF (x y : C2) : Nat × Nat :=
  (fop .sub .f64 (fop .mul .f64 (wd x.1) (wd y.1)) (fop .mul .f64 (wd x.2) (wd y.2)), fop .add .f64 (fop .mul .f64 (wd x.1) (wd y.2)) (fop .mul .f64 (wd x.2) (wd y.1)))
def mulC (x y : C2) : C2 := (nw (timesF x y).1, nw (timesF x y).2)
def powerF (x : C2) : Nat := fop .add .f64 (fop .mul .f64 (wd x.1) (wd x.1)) (fop .mul .f64 (wd x.2) (wd x.2))
def negF (x : Nat) : Nat := nrm .f32 (Op.negFloat .f32 x)
def conjC (x : C2) : C2 := (x.1, negF x.2)
def quoF (x y : C2) : Nat × Nat := (fop .quo .f64 (timesF x (conjC y)).1 (powerF y), fop .quo .f64 (timesF x (conjC y)).2 (powerF y))
def quoC (x y : C2) : C2 := (nw (quoF x y).1, nw (quoF x y).2)
def sqF (x : Nat) : Nat := nrm .f64 ((FloatKind.f64.format.sqrt x).getD (qnan .f64))
def longF (x : C2) : Nat := nw (sqF (powerF x))

@[go_sem] theorem unary_negf (k : FloatKind) (b : Nat) : Op.unary .neg (.float k b) = pure (.float k (Op.negFloat k b)) := rfl
theorem isN_neg (x : Nat) : isN .f32 (Op.negFloat .f32 x) = isN .f32 x := by
  have h : (Op.negFloat .f32 x) % 2147483648 = x % 2147483648 := by
    have h2 : (Op.negFloat .f32 x) = x ^^^ 2 ^ 31 := rfl
    rw [h2, show (2147483648 : Nat) = 2 ^ 31 from rfl, Nat.xor_mod_two_pow, Nat.mod_self, Nat.xor_zero]
  have e1 : Ieee.single.signWeight = 2147483648 := single_facts.1
  have key : ∀ y : Nat, (Ieee.single.read y).isNaN = decide (Ieee.single.infRung < y % 2147483648) := by
    intro y
    unfold Ieee.Format.read
    simp only [e1]
    have e2 := single_facts.2.1
    have e3 := single_facts.2.2.1
    split
    · rename_i h; symm; simp only [Ieee.Datum.isNaN, decide_eq_false_iff_not]; rw [e2] at h; rw [e3]; omega
    · split
      · rename_i h; symm; simp only [Ieee.Datum.isNaN, decide_eq_false_iff_not]; rw [e3] at h ⊢; omega
      · split
        · rename_i h; symm; simp only [Ieee.Datum.isNaN, decide_eq_false_iff_not]; omega
        · rename_i h1 h2 h3; symm; simp only [Ieee.Datum.isNaN, decide_eq_true_eq]; omega
  show (Ieee.single.read _).isNaN = (Ieee.single.read _).isNaN
  rw [key, key, h]
theorem nrm_neg (x : Nat) : nrm .f32 (Op.negFloat .f32 x) = negF (nrm .f32 x) := by
  unfold negF
  by_cases h : isN .f32 x = true
  · rw [nrm_of_nan h, nrm_of_nan (by rw [isN_neg]; exact h), nrm_of_nan (by rw [isN_neg]; exact isN_qnan _)]
  · rw [nrm_of_not (by simpa using h : isN .f32 x = false)]

section
variable {ops : Array Oper} {rest : List Oper} {o : Oper} {a : Act} {Q : Exit → Act → World → Prop} {w : World}
theorem wpList_wid (hgd : o.guard = none) (X : Operand) (ho : o.op = .convert 30 75 X) (x : Nat) (hx : a.eval X = .float .f32 x)
    (h : ∀ r n, nrm .f64 r = wd (nrm .f32 x) → wpList Try.prog ops Q rest (a.put o.dst (.float .f64 r)) (w.drewN n)) : wpList Try.prog ops Q (o :: rest) a w :=
  wpList_fcvtg 30 75 X ho .f32 .f64 x (by rw [Try.underlying30]; rfl) Try.underlying75 hx (fits_widen _) (by simp [Region.wanted, hgd]) h
theorem wpList_nar (hgd : o.guard = none) (X : Operand) (ho : o.op = .convert 75 30 X) (x : Nat) (hx : a.eval X = .float .f64 x) (hf : fit1 (nrm .f64 x))
    (h : ∀ r n, nrm .f32 r = nw (nrm .f64 x) → wpList Try.prog ops Q rest (a.put o.dst (.float .f32 r)) (w.drewN n)) : wpList Try.prog ops Q (o :: rest) a w :=
  wpList_fcvtg 75 30 X ho .f64 .f32 x (by rw [Try.underlying75]; rfl) Try.underlying30 hx hf (by simp [Region.wanted, hgd]) h
end

/-- A complex number. -/
def RetX (F : C2) (w : World) (e : Ending) (w' : World) : Prop := ∃ a b m, e = .returned (.complex .f32 a b) ∧ nrm .f32 a = F.1 ∧ nrm .f32 b = F.2 ∧ w' = w.drewN m
/-- A complex number of two float64. -/
def RetX64 (F : Nat × Nat) (w : World) (e : Ending) (w' : World) : Prop := ∃ a b m, e = .returned (.complex .f64 a b) ∧ nrm .f64 a = F.1 ∧ nrm .f64 b = F.2 ∧ w' = w.drewN m
def RetF32 (F : Nat) (w : World) (e : Ending) (w' : World) : Prop := ∃ a m, e = .returned (.float .f32 a) ∧ nrm .f32 a = F ∧ w' = w.drewN m
def RetF64 (F : Nat) (w : World) (e : Ending) (w' : World) : Prop := ∃ a m, e = .returned (.float .f64 a) ∧ nrm .f64 a = F ∧ w' = w.drewN m
/-- Two float64. -/
def Ret64s (F : Nat × Nat) (w : World) (e : Ending) (w' : World) : Prop := ∃ a b m, e = .returned (.tuple #[.float .f64 a, .float .f64 b]) ∧ nrm .f64 a = F.1 ∧ nrm .f64 b = F.2 ∧ w' = w.drewN m

set_option maxRecDepth 100000 in
theorem minus_impl (x y : C2) (w : World) : Calls Try.prog 25 #[.complex .f32 x.1 x.2, .complex .f32 y.1 y.2] w (RetX (subC (nc x) (nc y)) w) := by
  go_enter Try.func25, Try.ntmps25
  go_wp2_with (first | (with_reducible refine wpList_fop rfl _ _ _ _ _ rfl rfl .f32 _ _ rfl rfl ?_; intro r m hr))
  go_ret
  exact ⟨_, _, _, rfl, by simp only [nc, subC, *], by simp only [nc, subC, *], by first | rfl | (simp; rfl)⟩

set_option maxRecDepth 100000 in
theorem plus_impl (x y : C2) (w : World) : Calls Try.prog 90 #[.complex .f32 x.1 x.2, .complex .f32 y.1 y.2] w (RetX (addC (nc x) (nc y)) w) := by
  go_enter Try.func90, Try.ntmps90
  go_wp2_with (first | (with_reducible refine wpList_fop rfl _ _ _ _ _ rfl rfl .f32 _ _ rfl rfl ?_; intro r m hr))
  go_ret
  exact ⟨_, _, _, rfl, by simp only [nc, addC, *], by simp only [nc, addC, *], by first | rfl | (simp; rfl)⟩

set_option maxRecDepth 100000 in
theorem scale_impl (x : C2) (b : Nat) (w : World) : Calls Try.prog 94 #[.complex .f32 x.1 x.2, .float .f32 b] w (RetX (scaleC (nc x) (nrm .f32 b)) w) := by
  go_enter Try.func94, Try.ntmps94
  go_wp2_with (first | (with_reducible refine wpList_fop rfl _ _ _ _ _ rfl rfl .f32 _ _ rfl rfl ?_; intro r m hr))
  go_ret
  exact ⟨_, _, _, rfl, by simp only [nc, scaleC, *], by simp only [nc, scaleC, *], by first | rfl | (simp; rfl)⟩

set_option maxRecDepth 100000 in
theorem scale_spec (x : C2) (b : Nat) (w : World) : Calls Try.prog 97 #[.complex .f32 x.1 x.2, .float .f32 b] w (RetX (scaleC (nc x) (nrm .f32 b)) w) := by
  go_enter Try.func97, Try.ntmps97
  go_wp2_with (first | (with_reducible refine wpList_fop rfl _ _ _ _ _ rfl rfl .f32 _ _ rfl rfl ?_; intro r m hr))
  go_ret
  exact ⟨_, _, _, rfl, by simp only [nc, scaleC, *], by simp only [nc, scaleC, *], by first | rfl | (simp; rfl)⟩

set_option maxRecDepth 100000 in
theorem conj_impl (x : C2) (w : World) : Calls Try.prog 83 #[.complex .f32 x.1 x.2] w (RetX (conjC (nc x)) w) := by
  go_enter Try.func83, Try.ntmps83
  go_wp2_with (first | fail)
  go_ret
  exact ⟨_, _, 0, rfl, rfl, by simp only [nc, conjC, nrm_neg], rfl⟩

set_option maxRecDepth 100000 in
theorem conj_spec (x : C2) (w : World) : Calls Try.prog 89 #[.complex .f32 x.1 x.2] w (RetX (conjC (nc x)) w) := by
  go_enter Try.func89, Try.ntmps89
  go_wp2_with (first | fail)
  go_ret
  exact ⟨_, _, 0, rfl, rfl, by simp only [nc, conjC, nrm_neg], rfl⟩

set_option maxRecDepth 100000 in
theorem power_impl (x : C2) (w : World) : Calls Try.prog 47 #[.complex .f32 x.1 x.2] w (RetF64 (powerF (nc x)) w) := by
  go_enter Try.func47, Try.ntmps47
  go_wp2_with (first | (with_reducible refine wpList_wid rfl _ rfl _ rfl ?_; intro r m hr) | (with_reducible refine wpList_fop rfl _ _ _ _ _ rfl rfl .f64 _ _ rfl rfl ?_; intro r m hr))
  go_ret
  exact ⟨_, _, rfl, by simp only [nc, powerF, *], by first | rfl | (simp; rfl)⟩

set_option maxRecDepth 100000 in
theorem power_spec (x : C2) (w : World) : Calls Try.prog 49 #[.complex .f32 x.1 x.2] w (RetF64 (powerF (nc x)) w) := by
  go_enter Try.func49, Try.ntmps49
  go_wp2_with (first | (with_reducible refine wpList_wid rfl _ rfl _ rfl ?_; intro r m hr) | (with_reducible refine wpList_fop rfl _ _ _ _ _ rfl rfl .f64 _ _ rfl rfl ?_; intro r m hr))
  go_ret
  exact ⟨_, _, rfl, by simp only [nc, powerF, *], by first | rfl | (simp; rfl)⟩

set_option maxRecDepth 100000 in
theorem times_impl (x y : C2) (w : World) : Calls Try.prog 82 #[.complex .f32 x.1 x.2, .complex .f32 y.1 y.2] w (Ret64s (timesF (nc x) (nc y)) w) := by
  go_enter Try.func82, Try.ntmps82
  go_wp2_with (first | (with_reducible refine wpList_wid rfl _ rfl _ rfl ?_; intro r m hr) | (with_reducible refine wpList_fop rfl _ _ _ _ _ rfl rfl .f64 _ _ rfl rfl ?_; intro r m hr))
  go_ret2
  exact ⟨_, _, _, rfl, by simp only [nc, timesF, *], by simp only [nc, timesF, *], by first | rfl | (simp; rfl)⟩

set_option maxRecDepth 100000 in
theorem wide_spec (x : C2) (w : World) : Calls Try.prog 67 #[.complex .f32 x.1 x.2] w (RetX64 (wd (nrm .f32 x.1), wd (nrm .f32 x.2)) w) := by
  go_enter Try.func67, Try.ntmps67
  go_wp2_with (first | (with_reducible refine wpList_wid rfl _ rfl _ rfl ?_; intro r m hr))
  go_ret
  exact ⟨_, _, _, rfl, by simp only [*], by simp only [*], by first | rfl | (simp; rfl)⟩

set_option maxRecDepth 100000 in
theorem wideMul_spec (a b p q : Nat) (x y : C2) (ha : nrm .f64 a = wd x.1) (hb : nrm .f64 b = wd x.2) (hp : nrm .f64 p = wd y.1) (hq : nrm .f64 q = wd y.2) (w : World) : Calls Try.prog 66 #[.complex .f64 a b, .complex .f64 p q] w (RetX64 (timesF x y) w) := by
  go_enter Try.func66, Try.ntmps66
  go_wp2_with (with_reducible refine wpList_fop rfl _ _ _ _ _ rfl rfl .f64 _ _ rfl rfl ?_; intro r m hr)
  go_ret
  exact ⟨_, _, _, rfl, by simp only [timesF, *], by simp only [timesF, *], by first | rfl | (simp; rfl)⟩
set_option maxRecDepth 100000 in
theorem narrow_spec (x : Nat) (Hf : RowKit.Hid (fit1 (nrm .f64 x))) (w : World) : Calls Try.prog 48 #[.float .f64 x] w (RetF32 (nw (nrm .f64 x)) w) := by
  go_enter Try.func48, Try.ntmps48
  go_wp2_with (with_reducible refine wpList_nar rfl _ rfl _ rfl Hf.out ?_; intro r m hr)
  go_ret
  exact ⟨_, _, rfl, hr, rfl⟩
set_option maxRecDepth 100000 in
theorem cnarrow_spec (x y : Nat) (Hf : RowKit.Hid (fit2 (nrm .f64 x, nrm .f64 y))) (w : World) : Calls Try.prog 65 #[.complex .f64 x y] w (RetX (nw (nrm .f64 x), nw (nrm .f64 y)) w) := by
  go_enter Try.func65, Try.ntmps65
  go_wp2_with (go_at_call 48; go_must (refine (narrow_spec _ (Lib.hid (by first | exact Hf.out.1 | exact Hf.out.2)) _).mono ?_); rintro e w' ⟨r, m, rfl, hr, rfl⟩)
  go_ret
  exact ⟨_, _, _, rfl, by simp only [*], by simp only [*], by first | rfl | (simp; rfl)⟩
set_option maxRecDepth 100000 in
theorem mul_impl (x y : C2) (Hf : RowKit.Hid (fit2 (timesF (nc x) (nc y)))) (w : World) : Calls Try.prog 91 #[.complex .f32 x.1 x.2, .complex .f32 y.1 y.2] w (RetX (mulC (nc x) (nc y)) w) := by
  go_enter Try.func91, Try.ntmps91
  go_wp2_with (first | (go_at_call 82; go_must (refine (times_impl x y _).mono ?_); rintro e w' ⟨a, b, m, rfl, ha, hb, rfl⟩) | (with_reducible refine wpList_nar rfl _ rfl _ rfl (by simp only [*]; first | exact Hf.out.1 | exact Hf.out.2 | exact Hf.out) ?_; intro r m hr))
  go_ret
  exact ⟨_, _, _, rfl, by simp only [mulC, *], by simp only [mulC, *], by first | rfl | (simp; rfl)⟩

set_option maxRecDepth 100000 in
theorem mul_spec (x y : C2) (Hf : RowKit.Hid (fit2 (timesF (nc x) (nc y)))) (w : World) : Calls Try.prog 54 #[.complex .f32 x.1 x.2, .complex .f32 y.1 y.2] w (RetX (mulC (nc x) (nc y)) w) := by
  go_enter Try.func54, Try.ntmps54
  go_wp2_with fail
  refine (wide_spec x _).mono ?_
  rintro e w' ⟨a, b, m, rfl, ha, hb, rfl⟩
  go_wp2_with fail
  refine (wide_spec y _).mono ?_
  rintro e w' ⟨p, q, m2, rfl, hp, hq, rfl⟩
  go_wp2_with fail
  refine (wideMul_spec a b p q (nc x) (nc y) ha hb hp hq _).mono ?_
  rintro e w' ⟨c, d, m3, rfl, hc, hd, rfl⟩
  go_wp2_with fail
  refine (cnarrow_spec c d (Lib.hid (by rw [hc, hd]; exact Hf.out)) _).mono ?_
  rintro e w' ⟨r, s, m4, rfl, hr, hs, rfl⟩
  rw [hc] at hr
  rw [hd] at hs
  go_wp2_with fail
  go_ret
  exact ⟨_, _, _, rfl, hr, hs, by first | rfl | (simp; rfl)⟩

set_option maxRecDepth 100000 in
set_option maxHeartbeats 1000000 in
theorem quo_impl (x y : C2) (Hf : RowKit.Hid (fit1 (fop .quo .f64 (timesF (nc x) (conjC (nc y))).1 (powerF (nc y))) ∧ fit1 (fop .quo .f64 (timesF (nc x) (conjC (nc y))).2 (powerF (nc y))))) (w : World) : Calls Try.prog 71 #[.complex .f32 x.1 x.2, .complex .f32 y.1 y.2] w (RetX (quoC (nc x) (nc y)) w) := by
  go_enter Try.func71, Try.ntmps71
  go_wp2_with fail
  refine (conj_impl y _).mono ?_
  rintro e w' ⟨p, q, m, rfl, hp, hq, rfl⟩
  have hpq : nc (p, q) = conjC (nc y) := by simp only [nc] at hp hq ⊢; rw [hp, hq]
  clear hp hq
  go_wp2_with fail
  refine (times_impl x (p, q) _).mono ?_
  rw [hpq]
  rintro e w' ⟨a, b, m2, rfl, ha, hb, rfl⟩
  clear hpq
  go_wp2_with fail
  refine (power_impl y _).mono ?_
  rintro e w' ⟨c, m3, rfl, hc, rfl⟩
  go_wp2_with (first | (with_reducible refine wpList_fop rfl _ _ _ _ _ rfl rfl .f64 _ _ rfl rfl ?_; intro r m hr) | (with_reducible refine wpList_nar rfl _ rfl _ rfl (by simp only [*]; first | exact Hf.out.1 | exact Hf.out.2) ?_; intro r m hr))
  go_ret
  exact ⟨_, _, _, rfl, by simp only [quoC, quoF, *], by simp only [quoC, quoF, *], by first | rfl | (simp; rfl)⟩

set_option maxRecDepth 100000 in
set_option maxHeartbeats 1000000 in
theorem quo_spec (x y : C2) (Hf : RowKit.Hid (fit1 (fop .quo .f64 (timesF (nc x) (conjC (nc y))).1 (powerF (nc y))) ∧ fit1 (fop .quo .f64 (timesF (nc x) (conjC (nc y))).2 (powerF (nc y))))) (w : World) : Calls Try.prog 77 #[.complex .f32 x.1 x.2, .complex .f32 y.1 y.2] w (RetX (quoC (nc x) (nc y)) w) := by
  go_enter Try.func77, Try.ntmps77
  go_wp2_with fail
  refine (wide_spec x _).mono ?_
  rintro e w' ⟨a, b, m, rfl, ha, hb, rfl⟩
  go_wp2_with fail
  refine (conj_spec y _).mono ?_
  rintro e w' ⟨p, q, m1, rfl, hp, hq, rfl⟩
  go_wp2_with fail
  refine (wide_spec (p, q) _).mono ?_
  rintro e w' ⟨u, v, m2, rfl, hu, hv, rfl⟩
  rw [hp] at hu
  rw [hq] at hv
  clear hp hq
  go_wp2_with fail
  refine (wideMul_spec a b u v (nc x) (conjC (nc y)) ha hb hu hv _).mono ?_
  rintro e w' ⟨c, d, m3, rfl, hc, hd, rfl⟩
  clear ha hb hu hv
  go_wp2_with fail
  refine (power_spec y _).mono ?_
  rintro e w' ⟨g, m4, rfl, hg, rfl⟩
  go_wp2_with (first | (with_reducible refine wpList_fop rfl _ _ _ _ _ rfl rfl .f64 _ _ rfl rfl ?_; intro r m hr) | (go_at_call 48; go_must (refine (narrow_spec _ (Lib.hid (by simp only [*]; first | exact Hf.out.1 | exact Hf.out.2)) _).mono ?_); rintro e w' ⟨r, m, rfl, hr, rfl⟩))
  go_ret
  exact ⟨_, _, _, rfl, by simp only [quoC, quoF, *], by simp only [quoC, quoF, *], by first | rfl | (simp; rfl)⟩


end Go.Proofs.Ytalfkkagbajjcaa

/- The length of a complex number, of the program and of the reference. Conditions: the root fits float32. -/
namespace Go.Proofs.Ytalfkkagbajjcaa
set_option linter.unusedSimpArgs false
set_option linter.unusedVariables false
open Go Go.RowKit

theorem sqrt_nrm (x : Nat) : FloatKind.f64.format.sqrt (nrm .f64 x) = FloatKind.f64.format.sqrt x := by
  by_cases h : isN .f64 x = true
  · obtain ⟨s, f, e⟩ := isNaN_cases _ h
    obtain ⟨s2, f2, e2⟩ := isNaN_cases _ (isN_nrm .f64 x ▸ h)
    have e' : FloatKind.f64.format.read x = .nan s f := e
    have e2' : FloatKind.f64.format.read (nrm .f64 x) = .nan s2 f2 := e2
    simp [Ieee.Format.sqrt, e', e2', Ieee.Datum.root]
  · rw [nrm_of_not (by simpa using h)]

theorem sqrt_eq (x : Nat) : Extern.MathSqrt.sqrt #[.float .f64 x] = (match FloatKind.f64.format.sqrt x with | some r => pure (.float .f64 r) | none => do pure (.float .f64 (← choose (.nanBits .f64 x x)))) := rfl
theorem run_sqrt (x : Nat) (w : World) : ∃ r n, (callFunc 63 #[.float .f64 x]).run Try.prog w = .ok (.value (.float .f64 r)) (w.drewN n) ∧ nrm .f64 r = sqF (nrm .f64 x) := by
  rw [run_callFunc_extern (e := Extern.MathSqrt.sqrt) Try.func63 (by kernel_rfl) (by kernel_rfl) (by kernel_rfl) (by kernel_rfl)]
  unfold sqF
  rw [sqrt_nrm]
  cases h : FloatKind.f64.format.sqrt x with
  | some r => exact ⟨r, 0, by simp [sqrt_eq, h, Result.andThen, World.drewN_zero], by simp⟩
  | none =>
    have hc := choose_nan_f32 .f64 x x (w.tape w.drawn (.nanBits .f64 x x))
    refine ⟨Question.cut (.nanBits .f64 x x) (w.tape w.drawn (.nanBits .f64 x x)), 1, ?_, ?_⟩
    · simp [sqrt_eq, h, Result.andThen, Question.forced, World.drew_is_drewN]
    · simp [nrm_qnan, nrm_of_nan hc]

set_option maxRecDepth 100000 in
theorem sqrt_lib (x : Nat) (w : World) : Calls Try.prog 46 #[.float .f64 x] w (RetF64 (sqF (nrm .f64 x)) w) := by
  obtain ⟨r, n, hrun, hr⟩ := run_sqrt x w
  have Hr := Lib.hid hr
  clear hr
  go_enter Try.func46, Try.ntmps46
  go_wp2
  go_ret
  exact ⟨_, _, rfl, Hr.out, rfl⟩

set_option maxRecDepth 100000 in
theorem long_impl (x : C2) (Hf : RowKit.Hid (fit1 (sqF (powerF (nc x))))) (w : World) : Calls Try.prog 24 #[.complex .f32 x.1 x.2] w (RetF32 (longF (nc x)) w) := by
  go_enter Try.func24, Try.ntmps24
  go_wp2_with fail
  refine (power_impl x _).mono ?_
  rintro e w' ⟨p, m, rfl, hp, rfl⟩
  go_wp2_with fail
  refine (sqrt_lib p _).mono ?_
  rintro e w' ⟨q, m2, rfl, hq, rfl⟩
  rw [hp] at hq
  clear hp
  go_wp2_with (with_reducible refine wpList_nar rfl _ rfl _ rfl (by rw [hq]; exact Hf.out) ?_; intro r m hr)
  go_ret
  exact ⟨_, _, rfl, by rw [longF, hr, hq], by first | rfl | (simp; rfl)⟩

set_option maxRecDepth 100000 in
theorem long_spec (x : C2) (Hf : RowKit.Hid (fit1 (sqF (powerF (nc x))))) (w : World) : Calls Try.prog 27 #[.complex .f32 x.1 x.2] w (RetF32 (longF (nc x)) w) := by
  go_enter Try.func27, Try.ntmps27
  go_wp2_with fail
  refine (power_spec x _).mono ?_
  rintro e w' ⟨p, m, rfl, hp, rfl⟩
  go_wp2_with fail
  refine (sqrt_lib p _).mono ?_
  rintro e w' ⟨q, m2, rfl, hq, rfl⟩
  rw [hp] at hq
  clear hp
  go_wp2_with fail
  refine (narrow_spec q (Lib.hid (by rw [hq]; exact Hf.out)) _).mono ?_
  rintro e w' ⟨r, m3, rfl, hr, rfl⟩
  rw [hq] at hr
  go_wp2_with fail
  go_ret
  exact ⟨_, _, rfl, hr, by first | rfl | (simp; rfl)⟩
theorem longOf_spec (x : C2) (Hf : RowKit.Hid (fit1 (sqF (powerF (nc x))))) (w : World) : Calls Try.prog 10 #[.complex .f32 x.1 x.2] w (RetF32 (longF (nc x)) w) := by
  go_enter Try.func10, Try.ntmps10
  go_wp2_with fail
  refine (long_spec x Hf _).mono ?_
  rintro e w' ⟨r, m3, rfl, hr, rfl⟩
  go_wp2_with fail
  go_ret
  exact ⟨_, _, rfl, hr, by first | rfl | (simp; rfl)⟩

end Go.Proofs.Ytalfkkagbajjcaa

/- Whether numbers are finite: lists of floats, complex numbers, lists of them; of the program and of the reference. Conditions: lengths of at most 2^40. -/
namespace Go.Proofs.Ytalfkkagbajjcaa
set_option linter.unusedSimpArgs false
set_option linter.unusedVariables false
open Go Go.RowKit

/-- Finite, of a word with the bits of a NaN forgotten. -/
def finF (x : Nat) : Bool := fcmp .eql .f32 (fop .sub .f32 x x) (nrm .f32 0)
def allFin (rs : List Nat) : Bool := rs.all fun r => finF (nrm .f32 r)

theorem isFinite_impl (x : Nat) (w : World) : Calls Try.prog 26 #[.float .f32 x] w (RetB (finF (nrm .f32 x)) w) := by
  go_enter Try.func26, Try.ntmps26
  go_wp2_with (with_reducible refine wpList_fop rfl _ _ _ _ _ rfl rfl .f32 _ _ rfl rfl ?_; intro r m hr)
  go_ret
  exact ⟨_, rfl, rfl⟩

theorem isFinite_spec (x : Nat) (w : World) : Calls Try.prog 64 #[.float .f32 x] w (RetB (finF (nrm .f32 x)) w) := by
  go_enter Try.func64, Try.ntmps64
  go_wp2_with (with_reducible refine wpList_fop rfl _ _ _ _ _ rfl rfl .f32 _ _ rfl rfl ?_; intro r m hr)
  go_ret
  exact ⟨_, rfl, rfl⟩

theorem notFinite_impl (x : Nat) (w : World) : Calls Try.prog 85 #[.float .f32 x] w (RetB (!finF (nrm .f32 x)) w) := by
  go_enter Try.func85, Try.ntmps85
  go_wp2_with (go_at_call 26; refine (isFinite_impl _ _).mono ?_; rintro e w' ⟨m, rfl, rfl⟩)
  go_ret
  exact ⟨_, rfl, rfl⟩

theorem allFin_true_iff (rs : List Nat) : allFin rs = true ↔ ∀ i (h : i < rs.length), finF (nrm .f32 rs[i]) = true := by
  simp only [allFin, List.all_eq_true]
  constructor
  · intro h i hi; exact h _ (List.getElem_mem hi)
  · intro h x hx
    obtain ⟨i, hi, rfl⟩ := List.getElem_of_mem hx
    exact h i hi
theorem allFin_false {rs : List Nat} {i : Nat} (h : i < rs.length) (hf : finF (nrm .f32 rs[i]) = false) : allFin rs = false := by
  cases ha : allFin rs with
  | false => rfl
  | true => rw [allFin_true_iff] at ha; rw [ha i h] at hf; cases hf
theorem allFin_take {rs : List Nat} {k : Nat} (h : ∀ i (h : i < rs.length), i < k → finF (nrm .f32 rs[i]) = true) (hk : rs.length ≤ k) : allFin rs = true :=
  (allFin_true_iff rs).2 fun i hi => h i hi (by omega)

def FinUpto (rs : List Nat) (k : Nat) : Prop := ∀ i (h : i < rs.length), i < k → finF (nrm .f32 rs[i]) = true
theorem FinUpto.zero (rs : List Nat) : FinUpto rs 0 := fun _ _ h => absurd h (by omega)
theorem FinUpto.succ {rs : List Nat} {k : Nat} (h : FinUpto rs k) (hk : k < rs.length) (hf : finF (nrm .f32 rs[k]) = true) : FinUpto rs (k + 1) := fun i hi hik => by
  by_cases e : i = k
  · subst e; exact hf
  · exact h i hi (by omega)

def fl (rs : List Nat) : List Value := rs.map (Value.float .f32)
@[simp] theorem fl_length (rs : List Nat) : (fl rs).length = rs.length := by simp [fl]
theorem fl_get {rs : List Nat} {i : Nat} (h : i < rs.length) : (fl rs)[i]? = some (.float .f32 (rs.getD i 0)) := by simp [fl, List.getD, h]
theorem RdV.openF {w : World} {v : Value} {rs : List Nat} (h : RdV w v (fl rs)) : (rs = [] ∧ ∃ ao cap, v = .slice ao 0 cap) ∨
    ∃ b off cap, v = .slice (some ⟨b, off, none⟩) rs.length cap ∧ b < w.heap.size ∧ (rs.length ≤ cap ∧ cap ≤ maxLen) ∧ ∀ i (_ : i < rs.length), w.cell? ⟨b, off + i, none⟩ = some (.float .f32 rs[i]) := by
  by_cases hn : rs = []
  · subst hn
    obtain ⟨ao, cap, rfl, _⟩ := h.shape
    exact .inl ⟨rfl, ao, cap, rfl⟩
  · obtain ⟨b, off, cap, rfl, hb, hc, hr⟩ := h.open (by simpa [fl] using hn)
    rw [fl_length] at hc hr ⊢
    exact .inr ⟨b, off, cap, rfl, hb, hc, fun i hi => by rw [hr i hi, fl_get hi]; simp [List.getD, hi]⟩

def RetIx (b : Bool) (w : World) (e : Ending) (w' : World) : Prop := ∃ (j : Int) (m : Nat), e = .returned (.int .i64 j) ∧ decide (0 ≤ j) = b ∧ w' = w.drewN m
set_option maxRecDepth 100000 in
set_option maxHeartbeats 400000 in
theorem indexNot_impl (v : Value) (rs : List Nat) (w : World) (hv : RdV w v (fl rs)) (hl : rs.length ≤ 1099511627776) :
    Calls Try.prog 95 #[v, .func (.func 85) #[] #[]] w (RetIx (!allFin rs) w) := by
  rcases hv.openF with ⟨rfl, ao, cap, rfl⟩ | ⟨b, off, cap, rfl, hb, hcp, hc⟩
  · clear hv
    go_enter Try.func95, Try.ntmps95
    go_wp2
    refine wp_loop_rounds 1 ?_
    rw [rounds_succ]
    go_wp2
    go_ret
    exact ⟨-1, 0, rfl, rfl, rfl⟩
  · have Hc := Lib.hid hc
    clear hc hv
    go_enter Try.func95, Try.ntmps95
    go_wp2
    go_loopw [8] (fun i wr => ∃ k m : Nat, k ≤ rs.length ∧ i = .int .i64 k ∧ wr = w.drewN m ∧ FinUpto rs k) (fun i _ => rs.length - (intOf i).toNat)
    case atStart => exact ⟨0, 0, Nat.zero_le _, rfl, rfl, FinUpto.zero rs⟩
    case round =>
      obtain ⟨k, m, hk, rfl, rfl, hf⟩ := hrel
      by_cases hlt : k < rs.length
      · have c1 := Hc.out k hlt
        by_cases hx : finF (nrm .f32 rs[k]) = true
        · have H2 := Lib.hid (hf.succ hlt hx)
          clear hf
          go_wp2_with (go_at_call 85; refine (notFinite_impl _ _).mono ?_; rintro e w' ⟨m, rfl, rfl⟩)
          go_roundw
          case rel => exact ⟨k + 1, _, by omega, by go_num, by first | rfl | simp [Nat.add_assoc], H2.out⟩
          case measure => simp [intOf]; omega
        · have hx : finF (nrm .f32 rs[k]) = false := by simpa using hx
          have H2 := Lib.hid (allFin_false hlt hx)
          clear hf
          go_wp2_with (go_at_call 85; refine (notFinite_impl _ _).mono ?_; rintro e w' ⟨m, rfl, rfl⟩)
          go_ret
          rw [H2.out]
          exact ⟨_, _, rfl, by simp, by first | rfl | (simp; rfl)⟩
      · have H2 := Lib.hid (allFin_take hf (by omega))
        clear hf
        go_wp2
        go_ret
        rw [H2.out]
        exact ⟨_, _, rfl, by simp, rfl⟩

set_option maxRecDepth 100000 in
theorem containsNot_impl (v : Value) (rs : List Nat) (w : World) (hv : RdV w v (fl rs)) (hl : rs.length ≤ 1099511627776) :
    Calls Try.prog 84 #[v, .func (.func 85) #[] #[]] w (RetB (!allFin rs) w) := by
  have Hv := Lib.hid hv
  clear hv
  go_enter Try.func84, Try.ntmps84
  go_wp2_with (go_at_call 95; refine (indexNot_impl _ _ _ Hv.out hl).mono ?_; rintro e w' ⟨j, m, rfl, hj, rfl⟩)
  all_goals
    go_ret
    exact ⟨_, by simp [*], rfl⟩

set_option maxRecDepth 100000 in
theorem areFinite_impl (v : Value) (rs : List Nat) (w : World) (hv : RdV w v (fl rs)) (hl : rs.length ≤ 1099511627776) :
    Calls Try.prog 74 #[v] w (RetB (allFin rs) w) := by
  have Hv := Lib.hid hv
  clear hv
  go_enter Try.func74, Try.ntmps74
  go_wp2_with (go_at_call 84; refine (containsNot_impl _ _ _ Hv.out hl).mono ?_; rintro e w' ⟨m, rfl, rfl⟩)
  go_ret
  exact ⟨_, by simp, rfl⟩

end Go.Proofs.Ytalfkkagbajjcaa

/- Complex numbers and lists of them: finite ones; of the program and of the reference. Conditions: lengths of at most 2^40. -/
namespace Go.Proofs.Ytalfkkagbajjcaa
set_option linter.unusedSimpArgs false
set_option linter.unusedVariables false
open Go Go.RowKit

def cx (rs : List C2) : List Value := rs.map cxv
@[simp] theorem cx_length (rs : List C2) : (cx rs).length = rs.length := by simp [cx]
theorem cx_get {rs : List C2} {i : Nat} (h : i < rs.length) : (cx rs)[i]? = some (cxv rs[i]) := by simp [cx, h]
theorem cx_one (rs : List C2) : ∀ u ∈ cx rs, u.oneCell' = true := by
  intro u hu
  simp only [cx, List.mem_map] at hu
  obtain ⟨r, _, rfl⟩ := hu
  rfl
theorem cx_take {rs : List C2} {k : Nat} (h : k < rs.length) : cx (rs.take k) ++ [cxv rs[k]] = cx (rs.take (k + 1)) := by
  rw [List.take_succ_eq_append_getElem h, cx, cx, List.map_append]; rfl
theorem cx_takes (rs : List C2) (n : Nat) : cx (rs.take n) = (cx rs).take n := by rw [cx, cx, List.map_take]
theorem infoC : (Try.prog.info? 35).map (fun i => (i.zero, i.size, i.bytes)) = some (some (.complex .f32 0 0), 1, 8) := by kernel_rfl
theorem RdV.openC {w : World} {v : Value} {rs : List C2} (h : RdV w v (cx rs)) : (rs = [] ∧ ∃ ao cap, v = .slice ao 0 cap) ∨
    ∃ b off cap, v = .slice (some ⟨b, off, none⟩) rs.length cap ∧ b < w.heap.size ∧ (rs.length ≤ cap ∧ cap ≤ maxLen) ∧ ∀ i (_ : i < rs.length), w.cell? ⟨b, off + i, none⟩ = some (.complex .f32 rs[i].1 rs[i].2) := by
  by_cases hn : rs = []
  · subst hn
    obtain ⟨ao, cap, rfl, _⟩ := h.shape
    exact .inl ⟨rfl, ao, cap, rfl⟩
  · obtain ⟨b, off, cap, rfl, hb, hc, hr⟩ := h.open (by simpa [cx] using hn)
    rw [cx_length] at hc hr ⊢
    exact .inr ⟨b, off, cap, rfl, hb, hc, fun i hi => by rw [hr i hi, cx_get hi]; rfl⟩

/-- Both parts finite. -/
def finC (z : C2) : Bool := finF z.1 && finF z.2
def allFinC (rs : List C2) : Bool := rs.all fun r => finC (nc r)
theorem allFinC_true_iff (rs : List C2) : allFinC rs = true ↔ ∀ i (h : i < rs.length), finC (nc rs[i]) = true := by
  simp only [allFinC, List.all_eq_true]
  constructor
  · intro h i hi; exact h _ (List.getElem_mem hi)
  · intro h x hx
    obtain ⟨i, hi, rfl⟩ := List.getElem_of_mem hx
    exact h i hi
theorem allFinC_false {rs : List C2} {i : Nat} (h : i < rs.length) (hf : finC (nc rs[i]) = false) : allFinC rs = false := by
  cases ha : allFinC rs with
  | false => rfl
  | true => rw [allFinC_true_iff] at ha; rw [ha i h] at hf; cases hf
def FinUptoC (rs : List C2) (k : Nat) : Prop := ∀ i (h : i < rs.length), i < k → finC (nc rs[i]) = true
theorem FinUptoC.zero (rs : List C2) : FinUptoC rs 0 := fun _ _ h => absurd h (by omega)
theorem FinUptoC.succ {rs : List C2} {k : Nat} (h : FinUptoC rs k) (hk : k < rs.length) (hf : finC (nc rs[k]) = true) : FinUptoC rs (k + 1) := fun i hi hik => by
  by_cases e : i = k
  · subst e; exact hf
  · exact h i hi (by omega)
theorem FinUptoC.all {rs : List C2} {k : Nat} (h : FinUptoC rs k) (hk : rs.length ≤ k) : allFinC rs = true := (allFinC_true_iff rs).2 fun i hi => h i hi (by omega)

set_option maxRecDepth 100000 in
theorem cfin1_spec (z : C2) (w : World) : Calls Try.prog 50 #[.complex .f32 z.1 z.2] w (RetB (finC (nc z)) w) := by
  have H := Lib.hid (show finC (nc z) = (finF (nrm .f32 z.1) && finF (nrm .f32 z.2)) from rfl)
  rw [H.out]
  generalize z.1 = a
  generalize z.2 = b
  cases h : finF (nrm .f32 a) <;> cases h2 : finF (nrm .f32 b) <;>
  · go_enter Try.func50, Try.ntmps50
    go_wp2_with (go_at_call 64; refine (isFinite_spec _ _).mono ?_; rintro e w' ⟨m, rfl, rfl⟩)
    go_ret
    exact ⟨_, by first | rfl | simp, by first | rfl | (simp; rfl)⟩

theorem rd_two (w : World) (a b : Nat) : RdV (w.alloc (.cells #[.float .f32 a, .float .f32 b] 30)) (.slice (some ⟨w.heap.size, 0, none⟩) 2 2) (fl [a, b]) := by
  have hc : ∀ j, (w.alloc (.cells #[.float .f32 a, .float .f32 b] 30)).cell? ⟨w.heap.size, j, none⟩ = #[Value.float .f32 a, Value.float .f32 b][j]? := fun j => World.cell?_alloc_new w _ _ j
  refine ⟨_, 2, rfl, ⟨Nat.le_refl _, by decide⟩, .inr ⟨w.heap.size, 0, rfl, fun i hi => ?_⟩⟩
  have h2 : i = 0 ∨ i = 1 := by simp at hi; omega
  rcases h2 with rfl | rfl
  · exact hc 0
  · exact hc 1

set_option maxRecDepth 100000 in
theorem cfin1_impl (z : C2) (w : World) : Calls Try.prog 60 #[.complex .f32 z.1 z.2] w (RB (finC (nc z)) w) := by
  have ha : allFin [z.1, z.2] = finC (nc z) := by simp [allFin, finC, nc]
  have Ha := Lib.hid ha
  clear ha
  go_enter Try.func60, Try.ntmps60
  go_wp2_with fail
  (go_at_call 74; ((with_reducible refine (areFinite_impl _ [z.1, z.2] _ (rd_two w z.1 z.2) (by simp)).mono ?_)))
  rintro e w' ⟨m, rfl, rfl⟩
  rw [Ha.out]
  go_wp2_with fail
  go_ret
  exact ⟨rfl, below_drewN ((Below.refl _ _).alloc (Nat.le_refl _) _) _⟩
theorem notFin1_impl (z : C2) (w : World) : Calls Try.prog 59 #[.complex .f32 z.1 z.2] w (RB (!finC (nc z)) w) := by
  go_enter Try.func59, Try.ntmps59
  go_wp2_with (go_at_call 60; refine (cfin1_impl _ _).mono ?_; rintro e w' ⟨rfl, hb⟩)
  go_ret
  exact ⟨rfl, hb⟩

set_option maxRecDepth 100000 in
set_option maxHeartbeats 400000 in
theorem cfinite_spec (v : Value) (rs : List C2) (w : World) (hv : RdV w v (cx rs)) (hl : rs.length ≤ 1099511627776) :
    Calls Try.prog 28 #[v] w (RetB (allFinC rs) w) := by
  rcases hv.openC with ⟨rfl, ao, cap, rfl⟩ | ⟨b, off, cap, rfl, hb, hcp, hc⟩
  · clear hv
    go_enter Try.func28, Try.ntmps28
    go_wp2
    refine wp_loop_rounds 1 ?_
    rw [rounds_succ]
    go_wp2
    go_ret
    exact ⟨0, rfl, rfl⟩
  · have Hc := Lib.hid hc
    clear hc hv
    go_enter Try.func28, Try.ntmps28
    go_wp2
    go_loopw [3] (fun i wr => ∃ k m : Nat, k ≤ rs.length ∧ i = .int .i64 k ∧ wr = w.drewN m ∧ FinUptoC rs k) (fun i _ => rs.length - (intOf i).toNat)
    case atStart => exact ⟨0, 0, Nat.zero_le _, rfl, rfl, FinUptoC.zero rs⟩
    case round =>
      obtain ⟨k, m, hk, rfl, rfl, hf⟩ := hrel
      by_cases hlt : k < rs.length
      · have c1 := Hc.out k hlt
        by_cases hx : finC (nc rs[k]) = true
        · have H2 := Lib.hid (hf.succ hlt hx)
          clear hf
          go_wp2_with (go_at_call 50; refine (cfin1_spec _ _).mono ?_; rintro e w' ⟨m, rfl, rfl⟩)
          go_roundw
          case rel => exact ⟨k + 1, _, by omega, by go_num, by first | rfl | simp [Nat.add_assoc], H2.out⟩
          case measure => simp [intOf]; omega
        · have hx : finC (nc rs[k]) = false := by simpa using hx
          have H2 := Lib.hid (allFinC_false hlt hx)
          clear hf
          go_wp2_with (go_at_call 50; refine (cfin1_spec _ _).mono ?_; rintro e w' ⟨m, rfl, rfl⟩)
          go_ret
          rw [H2.out]
          exact ⟨_, rfl, by first | rfl | (simp; rfl)⟩
      · have H2 := Lib.hid (FinUptoC.all hf (by omega))
        clear hf
        go_wp2
        go_ret
        rw [H2.out]
        exact ⟨_, rfl, rfl⟩

def RetIxB (b : Bool) (w : World) (e : Ending) (w' : World) : Prop := ∃ (j : Int), e = .returned (.int .i64 j) ∧ decide (0 ≤ j) = b ∧ Below w.heap.size w w'

set_option maxRecDepth 100000 in
set_option maxHeartbeats 400000 in
theorem cindexNot_impl (v : Value) (rs : List C2) (w : World) (hv : RdV w v (cx rs)) (hl : rs.length ≤ 1099511627776) :
    Calls Try.prog 73 #[v, .func (.func 59) #[] #[]] w (RetIxB (!allFinC rs) w) := by
  rcases hv.openC with ⟨rfl, ao, cap, rfl⟩ | ⟨b, off, cap, rfl, hb, hcp, hc⟩
  · clear hv
    go_enter Try.func73, Try.ntmps73
    go_wp2
    refine wp_loop_rounds 1 ?_
    rw [rounds_succ]
    go_wp2
    go_ret
    exact ⟨-1, rfl, rfl, Below.refl _ _⟩
  · have Hc := Lib.hid hc
    clear hc hv
    go_enter Try.func73, Try.ntmps73
    go_wp2
    go_loopw [8] (fun i wr => ∃ k : Nat, k ≤ rs.length ∧ i = .int .i64 k ∧ Below w.heap.size w wr ∧ FinUptoC rs k) (fun i _ => rs.length - (intOf i).toNat)
    case atStart => exact ⟨0, Nat.zero_le _, rfl, Below.refl _ _, FinUptoC.zero rs⟩
    case round =>
      obtain ⟨k, hk, rfl, hbel, hf⟩ := hrel
      have Hb := Lib.hid hbel
      by_cases hlt : k < rs.length
      · have c1 := (hbel.cell (p := ⟨b, off + k, none⟩) hb).trans (Hc.out k hlt)
        clear hbel
        by_cases hx : finC (nc rs[k]) = true
        · have H2 := Lib.hid (hf.succ hlt hx)
          clear hf
          go_wp2_with (go_at_call 59; refine (notFin1_impl _ _).mono ?_; rintro e w' ⟨rfl, hb1⟩)
          go_roundw
          case rel => exact ⟨k + 1, by omega, by go_num, Hb.out.trans (hb1.mono Hb.out.size), H2.out⟩
          case measure => simp [intOf]; omega
        · have hx : finC (nc rs[k]) = false := by simpa using hx
          have H2 := Lib.hid (allFinC_false hlt hx)
          clear hf
          go_wp2_with (go_at_call 59; refine (notFin1_impl _ _).mono ?_; rintro e w' ⟨rfl, hb1⟩)
          go_ret
          rw [H2.out]
          exact ⟨_, rfl, by simp, Hb.out.trans (hb1.mono Hb.out.size)⟩
      · have H2 := Lib.hid (FinUptoC.all hf (by omega))
        clear hf hbel
        go_wp2
        go_ret
        rw [H2.out]
        exact ⟨_, rfl, rfl, Hb.out⟩

theorem ccontainsNot_impl (v : Value) (rs : List C2) (w : World) (hv : RdV w v (cx rs)) (hl : rs.length ≤ 1099511627776) :
    Calls Try.prog 58 #[v, .func (.func 59) #[] #[]] w (RB (!allFinC rs) w) := by
  have Hv := Lib.hid hv
  clear hv
  go_enter Try.func58, Try.ntmps58
  go_wp2_with (go_at_call 73; refine (cindexNot_impl _ _ _ Hv.out hl).mono ?_; rintro e w' ⟨j, rfl, hj, hb⟩)
  go_ret
  exact ⟨by simp [hj], hb⟩

theorem allFinite_impl (v : Value) (rs : List C2) (w : World) (hv : RdV w v (cx rs)) (hl : rs.length ≤ 1099511627776) :
    Calls Try.prog 44 #[v] w (RB (allFinC rs) w) := by
  have Hv := Lib.hid hv
  clear hv
  go_enter Try.func44, Try.ntmps44
  go_wp2_with (go_at_call 58; refine (ccontainsNot_impl _ _ _ Hv.out hl).mono ?_; rintro e w' ⟨rfl, hb⟩)
  go_ret
  exact ⟨by simp, hb⟩

end Go.Proofs.Ytalfkkagbajjcaa
