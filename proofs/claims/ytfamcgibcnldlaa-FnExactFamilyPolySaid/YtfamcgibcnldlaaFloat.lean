/- Floats up to the bits of a NaN: plain facts on Ieee's words, and the walk's laws for arithmetic, conversion and comparison. Conditions: none. -/
import Derived.WalkLawsBesides
import Derived.WalkKit
import Derived.Deep.Draws
import Derived.WalkSpells
import Derived.Lib.Hide
import Derived.Outline
import Derived.OwnWalk
namespace Go.Proofs.Ytfamcgibcnldlaa
open Go
set_option linter.unusedSimpArgs false
set_option linter.unusedVariables false

def qnan : FloatKind → Nat
  | .f32 => 2143289344
  | .f64 => 9221120237041090560
def isN (k : FloatKind) (x : Nat) : Bool := (k.decode x).isNaN
/-- A word with the bits of a NaN forgotten. -/
def nrm (k : FloatKind) (x : Nat) : Nat := if isN k x then qnan k else x
/-- What an operation gives, with the bits of a NaN forgotten. -/
def fop (op : BinOp) (k : FloatKind) (x y : Nat) : Nat := nrm k ((floatBits op k x y).getD (qnan k))

theorem isN_qnan (k : FloatKind) : isN k (qnan k) = true := by cases k <;> decide +kernel
theorem nrm_qnan (k : FloatKind) : nrm k (qnan k) = qnan k := by simp [nrm, isN_qnan]
theorem nrm_nrm (k : FloatKind) (x : Nat) : nrm k (nrm k x) = nrm k x := by
  unfold nrm
  by_cases h : isN k x = true
  · simp [isN_qnan, h]
  · simp [h]
theorem isN_nrm (k : FloatKind) (x : Nat) : isN k (nrm k x) = isN k x := by
  unfold nrm; split
  · rename_i h; simp [isN_qnan, h]
  · rfl
theorem nrm_of_not {k : FloatKind} {x : Nat} (h : isN k x = false) : nrm k x = x := by simp [nrm, h]
theorem nrm_of_nan {k : FloatKind} {x : Nat} (h : isN k x = true) : nrm k x = qnan k := by simp [nrm, h]

theorem isNaN_cases (d : Ieee.Datum) : d.isNaN = true → ∃ s f, d = .nan s f := by
  cases d <;> simp [Ieee.Datum.isNaN]

theorem sum_nan_left (d : Ieee.Datum) (s : Bool) (f : Nat) : Ieee.Datum.sum (.nan s f) d = none := by cases d <;> rfl
theorem sum_nan_right (d : Ieee.Datum) (s : Bool) (f : Nat) : Ieee.Datum.sum d (.nan s f) = none := by cases d <;> rfl
theorem product_nan_left (d : Ieee.Datum) (s : Bool) (f : Nat) : Ieee.Datum.product (.nan s f) d = none := by cases d <;> rfl
theorem product_nan_right (d : Ieee.Datum) (s : Bool) (f : Nat) : Ieee.Datum.product d (.nan s f) = none := by cases d <;> rfl
theorem quotient_nan_left (g : Nat) (d : Ieee.Datum) (s : Bool) (f : Nat) : Ieee.Datum.quotient g (.nan s f) d = none := by cases d <;> rfl
theorem quotient_nan_right (g : Nat) (d : Ieee.Datum) (s : Bool) (f : Nat) : Ieee.Datum.quotient g d (.nan s f) = none := by cases d <;> rfl
theorem order_nan_left (d : Ieee.Datum) (s : Bool) (f : Nat) : Ieee.Datum.order (.nan s f) d = none := by cases d <;> rfl
theorem order_nan_right (d : Ieee.Datum) (s : Bool) (f : Nat) : Ieee.Datum.order d (.nan s f) = none := by cases d <;> rfl

theorem floatBits_nan_left {op : BinOp} {k : FloatKind} {x y : Nat} (h : isN k x = true) : floatBits op k x y = none := by
  obtain ⟨s, f, e⟩ := isNaN_cases _ h
  have e' : k.format.read x = .nan s f := e
  cases op <;> simp [floatBits, Ieee.Format.add, Ieee.Format.sub, Ieee.Format.mul, Ieee.Format.div, e', sum_nan_left, product_nan_left, quotient_nan_left]
theorem floatBits_nan_right {op : BinOp} {k : FloatKind} {x y : Nat} (h : isN k y = true) : floatBits op k x y = none := by
  obtain ⟨s, f, e⟩ := isNaN_cases _ h
  have e' : k.format.read y = .nan s f := e
  cases op <;> simp [floatBits, Ieee.Format.add, Ieee.Format.sub, Ieee.Format.mul, Ieee.Format.div, e', sum_nan_right, product_nan_right, quotient_nan_right, Ieee.Datum.opposite]

theorem floatBits_nrm (op : BinOp) (k : FloatKind) (x y : Nat) : floatBits op k (nrm k x) (nrm k y) = floatBits op k x y := by
  by_cases hx : isN k x = true
  · rw [floatBits_nan_left (isN_nrm k x ▸ hx), floatBits_nan_left hx]
  · by_cases hy : isN k y = true
    · rw [floatBits_nan_right (isN_nrm k y ▸ hy), floatBits_nan_right hy]
    · rw [nrm_of_not (by simpa using hx), nrm_of_not (by simpa using hy)]

theorem fop_nrm (op : BinOp) (k : FloatKind) (x y : Nat) : fop op k (nrm k x) (nrm k y) = fop op k x y := by
  unfold fop; rw [floatBits_nrm]
theorem nrm_fop (op : BinOp) (k : FloatKind) (x y : Nat) : nrm k (fop op k x y) = fop op k x y := by unfold fop; rw [nrm_nrm]

theorem order_nrm (k : FloatKind) (x y : Nat) : k.format.order (nrm k x) (nrm k y) = k.format.order x y := by
  unfold Ieee.Format.order
  by_cases hx : isN k x = true
  · obtain ⟨s, f, e⟩ := isNaN_cases _ hx
    obtain ⟨s', f', e'⟩ := isNaN_cases _ (isN_nrm k x ▸ hx)
    rw [show k.format.read x = .nan s f from e, show k.format.read (nrm k x) = .nan s' f' from e', order_nan_left, order_nan_left]
  · by_cases hy : isN k y = true
    · obtain ⟨s, f, e⟩ := isNaN_cases _ hy
      obtain ⟨s', f', e'⟩ := isNaN_cases _ (isN_nrm k y ▸ hy)
      rw [show k.format.read y = .nan s f from e, show k.format.read (nrm k y) = .nan s' f' from e', order_nan_right, order_nan_right]
    · rw [nrm_of_not (by simpa using hx), nrm_of_not (by simpa using hy)]

/-- 'x == y', 'x < y', .. as a Bool function of the words with the bits of a NaN forgotten. -/
def fcmp (op : BinOp) (k : FloatKind) (x y : Nat) : Bool :=
  let c := k.format.order x y
  match op with
  | .eql => c == some .eq
  | .neq => c != some .eq
  | .lss => c == some .lt
  | .leq => c == some .lt || c == some .eq
  | .gtr => c == some .gt
  | .geq => c == some .gt || c == some .eq
  | _ => false

theorem fcmp_nrm (op : BinOp) (k : FloatKind) (x y : Nat) : fcmp op k (nrm k x) (nrm k y) = fcmp op k x y := by
  unfold fcmp; rw [order_nrm]

/-- The conversion between the kinds, with the bits of a NaN forgotten ('what': where a number is too great for the narrower kind the result is not told here). -/
def fcvt (s k : FloatKind) (x : Nat) : Nat := (floatToFloatBits s x k).getD (qnan k)

/-- The kinds' conversion is told: a NaN, an infinity, or a number that does not pass the narrower kind. -/
def fits (s k : FloatKind) (x : Nat) : Bool := isN s x || (floatToFloatBits s x k).isSome

theorem read_nan (f : Ieee.Format) (x : Nat) (h : f.infRung < x % f.signWeight) (hb : f.binade ≤ f.infRung) : (f.read x).isNaN = true := by
  unfold Ieee.Format.read
  simp only
  rw [if_neg (by omega), if_neg (by omega), if_neg (by omega)]
  rfl

theorem choose_nan_f32 (k : FloatKind) (x y t : Nat) : isN k (Question.cut (.nanBits k x y) t) = true := by
  have h1 : t % 2 < 2 := Nat.mod_lt _ (by decide)
  cases k
  · have h2 : (t / 2) % 8388607 < 8388607 := Nat.mod_lt _ (by decide)
    have e1 : Ieee.single.signWeight = 2147483648 := by decide +kernel
    have e2 : Ieee.single.binade = 8388608 := by decide +kernel
    have e3 : Ieee.single.infRung = 2139095040 := by decide +kernel
    show (Ieee.single.read ((t % 2) * 2 ^ 31 + 0x7f800000 + 1 + (t / 2) % 8388607)).isNaN = true
    generalize t % 2 = s at *
    generalize (t / 2) % 8388607 = f at *
    have hs : s = 0 ∨ s = 1 := by omega
    exact read_nan _ _ (by rw [e1, e3]; rcases hs with rfl | rfl <;> omega) (by rw [e2, e3]; omega)
  · have h2 : (t / 2) % 4503599627370495 < 4503599627370495 := Nat.mod_lt _ (by decide)
    have e1 : Ieee.double.signWeight = 9223372036854775808 := by decide +kernel
    have e2 : Ieee.double.binade = 4503599627370496 := by decide +kernel
    have e3 : Ieee.double.infRung = 9218868437227405312 := by decide +kernel
    show (Ieee.double.read ((t % 2) * 2 ^ 63 + 0x7ff0000000000000 + 1 + (t / 2) % 4503599627370495)).isNaN = true
    generalize t % 2 = s at *
    generalize (t / 2) % 4503599627370495 = f at *
    have hs : s = 0 ∨ s = 1 := by omega
    exact read_nan _ _ (by rw [e1, e3]; rcases hs with rfl | rfl <;> omega) (by rw [e2, e3]; omega)

theorem choose_conv (k : FloatKind) (x t : Nat) : isN k (Question.cut (.nanConv k x) t) = true := by
  cases k
  · exact choose_nan_f32 .f32 x x t
  · exact choose_nan_f32 .f64 x x t

section
variable (P : Program) (w : World) (a : Addr) (m : Mode)
@[go_sem] theorem run_store_float (k : FloatKind) (b : Nat) : (store a (.float k b) m).run P w = stored P w a (.float k b) m := run_store P w a _ m rfl
@[go_sem] theorem run_store_complex (k : FloatKind) (b c : Nat) : (store a (.complex k b c) m).run P w = stored P w a (.complex k b c) m := run_store P w a _ m rfl
end

def isArith : BinOp → Bool
  | .add | .sub | .mul | .quo => true
  | _ => false

section
variable {P : Program} (w : World)
theorem run_fop (op : BinOp) (hop : isArith op = true) (t : TypeId) (k : FloatKind) (x y : Nat) :
    ∃ r n, (binOp op t (.float k x) (.float k y)).run P w = .ok (.float k r) (w.drewN n) ∧ nrm k r = fop op k (nrm k x) (nrm k y) := by
  rw [fop_nrm]
  cases h : floatBits op k x y with
  | some r =>
    exact ⟨r, 0, run_float_arith w op t k x y r h, by simp [fop, h]⟩
  | none =>
    have hc := choose_nan_f32 k x y (w.tape w.drawn (.nanBits k x y))
    refine ⟨Question.cut (.nanBits k x y) (w.tape w.drawn (.nanBits k x y)), 1, ?_, ?_⟩
    · cases op <;> simp only [isArith] at hop <;> first | (cases hop; done) | skip
      all_goals simp only [floatBits] at h
      all_goals simp [binOp, Op.floatArith, h, Question.forced, World.drew_is_drewN]
    · simp [fop, h, nrm_qnan, nrm_of_nan hc]

theorem run_fcmp (op : BinOp) (t : TypeId) (k : FloatKind) (x y : Nat) (hop : op = .eql ∨ op = .neq ∨ op = .lss ∨ op = .leq ∨ op = .gtr ∨ op = .geq) :
    (binOp op t (.float k x) (.float k y)).run P w = .ok (.bool (fcmp op k (nrm k x) (nrm k y))) w := by
  rw [fcmp_nrm]
  rcases hop with rfl | rfl | rfl | rfl | rfl | rfl <;> simp [binOp, Op.floatCmp, fcmp]

theorem run_fcvt (src dst : TypeId) (s k : FloatKind) (x : Nat) (hs : (P.underlying src).isSome = true) (hd : P.underlying dst = some (.float k)) (hf : fits s k (nrm s x) = true) :
    ∃ r n, (convert src dst (.float s x)).run P w = .ok (.float k r) (w.drewN n) ∧ nrm k r = nrm k (fcvt s k (nrm s x)) := by
  by_cases hn : isN s x = true
  · obtain ⟨u, hs'⟩ := Option.isSome_iff_exists.1 hs
    obtain ⟨sg, f, e⟩ := isNaN_cases _ hn
    have e' : s.decode x = .nan sg f := e
    by_cases hsk : s = k
    · subst hsk
      refine ⟨x, 0, ?_, ?_⟩
      · cases u <;> simp [convert, run_underlying hs', run_underlying hd, Conv.floatToFloat, World.drewN_zero]
      · simp [fcvt, floatToFloatBits, nrm_nrm]
    · have hc := choose_conv k x (w.tape w.drawn (.nanConv k x))
      refine ⟨Question.cut (.nanConv k x) (w.tape w.drawn (.nanConv k x)), 1, ?_, ?_⟩
      · cases u <;> simp [convert, run_underlying hs', run_underlying hd, Conv.floatToFloat, hsk, e', Question.forced, World.drew_is_drewN]
      · obtain ⟨sg', f', e2⟩ := isNaN_cases _ (isN_nrm s x ▸ hn)
        have e2' : s.decode (nrm s x) = .nan sg' f' := e2
        rw [nrm_of_nan hc]
        simp [fcvt, floatToFloatBits, hsk, e2', nrm_qnan]
  · have hn' : isN s x = false := by simpa using hn
    rw [nrm_of_not hn'] at hf ⊢
    simp only [fits, hn', Bool.false_or] at hf
    obtain ⟨r, hr⟩ := Option.isSome_iff_exists.1 hf
    exact ⟨r, 0, run_convert_float_float w src dst s k x r hs hd hr, by simp [fcvt, hr]⟩
end

section
variable {P : Program} {w : World} {ops : Array Oper} {rest : List Oper} {o : Oper} {a : Act} {Q : Exit → Act → World → Prop}
theorem wpList_wanted (hgd : Region.wanted o (yielded ops a.tmps) = true) (h : ∀ K : Act → World → Prop, (∀ a w, wpList P ops Q rest a w → K a w) → o.wp P a w K Q) : wpList P ops Q (o :: rest) a w :=
  wpList_step fun K hK => by rw [if_pos hgd]; exact h K hK

/-- THE WALK's LAW FOR '+', '-', '*', '/' ON FLOATS. -/
theorem wpList_fopg (op : BinOp) (t t' : TypeId) (X Y : Operand) (ho : o.op = .binOp op t X Y t') (hop : isArith op = true) (k : FloatKind) (x y : Nat)
    (hx : a.eval X = .float k x) (hy : a.eval Y = .float k y) (hgd : Region.wanted o (yielded ops a.tmps) = true)
    (h : ∀ r n, nrm k r = fop op k (nrm k x) (nrm k y) → wpList P ops Q rest (a.put o.dst (.float k r)) (w.drewN n)) : wpList P ops Q (o :: rest) a w := by
  refine wpList_wanted hgd fun K hK => ?_
  obtain ⟨r, n, hrun, hr⟩ := run_fop (P := P) w op hop t k x y
  unfold Oper.wp
  cases op <;> simp only [isArith] at hop <;> first | (cases hop; done) | skip
  all_goals
    simp [execOp, ho, hx, hy, hrun, Result.andThen, eqGuard]
    exact hK _ _ (h r n hr)

theorem wpList_fop (hgd : o.guard = none) (op : BinOp) (t t' : TypeId) (X Y : Operand) (ho : o.op = .binOp op t X Y t') (hop : isArith op = true) (k : FloatKind) (x y : Nat)
    (hx : a.eval X = .float k x) (hy : a.eval Y = .float k y)
    (h : ∀ r n, nrm k r = fop op k (nrm k x) (nrm k y) → wpList P ops Q rest (a.put o.dst (.float k r)) (w.drewN n)) : wpList P ops Q (o :: rest) a w :=
  wpList_fopg op t t' X Y ho hop k x y hx hy (by simp [Region.wanted, hgd]) h

theorem wpList_fcvtg (src dst : TypeId) (X : Operand) (ho : o.op = .convert src dst X) (s k : FloatKind) (x : Nat)
    (hs : (P.underlying src).isSome = true) (hd : P.underlying dst = some (.float k)) (hx : a.eval X = .float s x) (hf : fits s k (nrm s x) = true) (hgd : Region.wanted o (yielded ops a.tmps) = true)
    (h : ∀ r n, nrm k r = nrm k (fcvt s k (nrm s x)) → wpList P ops Q rest (a.put o.dst (.float k r)) (w.drewN n)) : wpList P ops Q (o :: rest) a w := by
  refine wpList_wanted hgd fun K hK => ?_
  obtain ⟨r, n, hrun, hr⟩ := run_fcvt (P := P) w src dst s k x hs hd hf
  unfold Oper.wp
  simp [execOp, ho, hx, hrun, Result.andThen]
  exact hK _ _ (h r n hr)
end

end Go.Proofs.Ytfamcgibcnldlaa
