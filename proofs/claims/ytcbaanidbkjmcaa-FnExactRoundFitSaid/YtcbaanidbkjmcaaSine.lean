/- The sine of turns, of the program and of the reference, at small numbers of at least 0: the same. Conditions: 'okY'. -/
import Derived.Test.YtcbaanidbkjmcaaRuleOf
import Derived.Test.YtcbaanidbkjmcaaFin
namespace Go.Proofs.Ytcbaanidbkjmcaa
open Go Go.RowKit

theorem xor_top (b n : Nat) : (b ^^^ 2 ^ n) % 2 ^ n = b % 2 ^ n := by
  rw [Nat.xor_mod_two_pow, Nat.mod_self, Nat.xor_zero]

theorem isN_neg (k : FloatKind) (b : Nat) : isN k (Op.negFloat k b) = isN k b := by
  have h : Op.negFloat k b % k.format.signWeight = b % k.format.signWeight := by
    unfold Op.negFloat Ieee.Format.signWeight
    rw [xor_top]
  unfold isN FloatKind.decode Ieee.Format.read
  simp only [h]
  split
  · rfl
  · split
    · rfl
    · split <;> rfl

/-- The opposite, with the bits of a NaN forgotten. -/
def negF (k : FloatKind) (x : Nat) : Nat := nrm k (Op.negFloat k x)
theorem nrm_neg (k : FloatKind) (b : Nat) : nrm k (Op.negFloat k b) = negF k (nrm k b) := by
  cases h : isN k b
  · rw [nrm_of_not h]; rfl
  · rw [nrm_of_nan h, nrm_of_nan (by rw [isN_neg]; exact h)]
    unfold negF
    rw [nrm_of_nan (by rw [isN_neg]; exact isN_qnan k)]

section
variable {P : Program} (w : World)
@[go_sem] theorem run_neg_float (k : FloatKind) (b : Nat) : (Op.unary .neg (.float k b)).run P w = .ok (.float k (Op.negFloat k b)) w := rfl
end

theorem exact_of {k : FloatKind} {r x : Nat} (h : nrm k r = x) (hx : isN k x = false) : r = x := by
  cases hr : isN k r
  · rw [nrm_of_not hr] at h; exact h
  · rw [nrm_of_nan hr] at h; rw [← h, isN_qnan] at hx; cases hx

theorem run_bits (x : Nat) (w : World) : (callFunc 83 #[.float .f64 x]).run Try.prog w = .ok (.value (.int .u64 x)) w := by kernel_rfl
theorem run_frombits (x : Int) (w : World) : (callFunc 78 #[.int .u64 x]).run Try.prog w = .ok (.value (.float .f64 x.toNat)) w := by kernel_rfl
theorem run_trunc0 (x : Nat) (w : World) : (callFunc 89 #[.float .f64 x]).run Try.prog w = (do let v ← Go.Extern.MathFloor.toIntegral "math.archTrunc" .zero #[.float .f64 x]; pure (Next.value v) : Sem Next).run Try.prog w := by kernel_rfl

/-- The number without its fraction. -/
def truncI (x : Nat) : Nat := FloatKind.f64.encode ((FloatKind.f64.decode x).integral .zero)
theorem integral_of {x : Nat} (h : isN .f64 x = false) : Go.Extern.MathFloor.toIntegral "math.archTrunc" .zero #[.float .f64 x] = pure (.float .f64 (truncI x)) := by
  unfold truncI
  conv => lhs; whnf
  cases hd : FloatKind.f64.decode x with
  | nan s f => unfold isN at h; rw [hd] at h; simp [Ieee.Datum.isNaN] at h
  | infinity s => rfl
  | number s m e => rfl
theorem run_trunc {x : Nat} (h : isN .f64 x = false) (w : World) : (callFunc 89 #[.float .f64 x]).run Try.prog w = .ok (.value (.float .f64 (truncI x))) w := by
  rw [run_trunc0, integral_of h]
  rfl

/-- The constants of a round of the sine's sum: 2k (2k + 1), k = 8 − j. -/
def kF (j : Nat) : Nat := nrm .f64 (floatOfInt .f64 ((8 - j : Nat) : Int))
def cK (j : Nat) : Nat := nrm .f64 (floatOfInt .f64 ((2 * (8 - j) * (2 * (8 - j) + 1) : Nat) : Int))

def polyS (u : Nat) : Nat → Nat
  | 0 => nrm .f64 4607182418800017408
  | j + 1 => fop .sub .f64 (nrm .f64 4607182418800017408) (fop .quo .f64 (fop .mul .f64 u (polyS u j)) (cK j))

/-- What is left of turns behind the point. -/
def intY (y : Nat) : Int := (floatToIntVal .f64 y .i64).getD 0
def partF (y : Nat) : Nat := fop .sub .f64 (nrm .f64 y) (nrm .f64 (floatOfInt .f64 (intY y)))
def belowF (y : Nat) : Bool := fcmp .geq .f64 (partF y) (nrm .f64 4602678819172646912)
def foldA (y : Nat) : Nat := if belowF y = true then fop .sub .f64 (partF y) (nrm .f64 4602678819172646912) else partF y
def farF (y : Nat) : Bool := fcmp .gtr .f64 (foldA y) (nrm .f64 4598175219545276416)
def foldB (y : Nat) : Nat := if farF y = true then fop .sub .f64 (nrm .f64 4602678819172646912) (foldA y) else foldA y
def zF (y : Nat) : Nat := fop .mul .f64 (foldB y) (nrm .f64 4618760256179416344)
def sineF (y : Nat) : Nat :=
  let r := fop .mul .f64 (zF y) (polyS (fop .mul .f64 (zF y) (zF y)) 8)
  if belowF y = true then negF .f64 r else r

/-- The number is one at which the sine is told here: not a NaN, at least 0, below 2^52, and its sine fits float32. -/
def okY (y : Nat) : Bool :=
  decide (y < 9223372036854775808) && !isN .f64 y && !fcmp .geq .f64 (nrm .f64 y) (nrm .f64 4841369599423283200) && !fcmp .leq .f64 (nrm .f64 y) (nrm .f64 14064741636278059008)
    && !fcmp .neq .f64 (fop .sub .f64 (nrm .f64 y) (nrm .f64 y)) (nrm .f64 0) && (floatToIntVal .f64 y .i64).isSome
    && (nrm .f64 (if fcmp .eql .f64 (nrm .f64 (truncI y)) (nrm .f64 0) = true then 0 else truncI y) == nrm .f64 (floatOfInt .f64 (intY y)))
    && !fcmp .lss .f64 (partF y) (nrm .f64 0) && fits .f64 .f32 (sineF y)

structure OkY (y : Nat) : Prop where
  lt : y < 9223372036854775808
  num : isN .f64 y = false
  notHuge : fcmp .geq .f64 (nrm .f64 y) (nrm .f64 4841369599423283200) = false
  notLow : fcmp .leq .f64 (nrm .f64 y) (nrm .f64 14064741636278059008) = false
  fin : fcmp .neq .f64 (fop .sub .f64 (nrm .f64 y) (nrm .f64 y)) (nrm .f64 0) = false
  int : floatToIntVal .f64 y .i64 = some (intY y)
  whole : nrm .f64 (if fcmp .eql .f64 (nrm .f64 (truncI y)) (nrm .f64 0) = true then 0 else truncI y) = nrm .f64 (floatOfInt .f64 (intY y))
  pos : fcmp .lss .f64 (partF y) (nrm .f64 0) = false
  fit : fits .f64 .f32 (sineF y) = true

theorem OkY.of {y : Nat} (h : okY y = true) : OkY y := by
  simp only [okY, Bool.and_eq_true, Bool.not_eq_true', decide_eq_true_eq, beq_iff_eq] at h
  obtain ⟨⟨⟨⟨⟨⟨⟨⟨h1, h2⟩, h3⟩, h4⟩, h5⟩, h6⟩, h7⟩, h8⟩, h9⟩ := h
  refine ⟨h1, h2, h3, h4, h5, ?_, h7, h8, h9⟩
  obtain ⟨n, hn⟩ := Option.isSome_iff_exists.1 h6
  rw [intY, hn]; rfl

theorem kF_test : ∀ j, j < 8 → fcmp .geq .f64 (kF j) (nrm .f64 4607182418800017408) = true := by decide +kernel
theorem kF_last : fcmp .geq .f64 (kF 8) (nrm .f64 4607182418800017408) = false := by decide +kernel
theorem kF_next : ∀ j, j < 8 → fop .sub .f64 (kF j) (nrm .f64 4607182418800017408) = kF (j + 1) := by decide +kernel
theorem kF_const : ∀ j, j < 8 → fop .mul .f64 (fop .mul .f64 (nrm .f64 4611686018427387904) (kF j)) (fop .add .f64 (fop .mul .f64 (nrm .f64 4611686018427387904) (kF j)) (nrm .f64 4607182418800017408)) = cK j := by decide +kernel
theorem kF_zero : nrm .f64 4620693217682128896 = kF 0 := by decide +kernel

def RetF (k : FloatKind) (F : Nat) (w : World) (e : Ending) (w' : World) : Prop := ∃ r m, e = .returned (.float k r) ∧ nrm k r = F ∧ w' = w.drewN m

end Go.Proofs.Ytcbaanidbkjmcaa
