/- Floats up to the bits of a NaN: plain facts on Ieee's words, and the walk's laws for arithmetic, conversion and comparison. Conditions: none. -/
import Derived.WalkLawsBesides
import Derived.WalkKit
import Derived.Deep.Draws
import Derived.WalkSpells
import Derived.Lib.Hide
import Derived.Outline
import Derived.OwnWalk
import Derived.StillTail
import Derived.Deep.AppendLies
import Derived.Below
namespace Go.Proofs.Ytklonahkacikbaa
set_option linter.unusedSimpArgs false
set_option linter.unusedVariables false
open Go

def qnan : FloatKind → Nat
  | .f32 => 2143289344
  | .f64 => 9221120237041090560
def isN (k : FloatKind) (x : Nat) : Bool := (k.decode x).isNaN
/-- A word with the bits of a NaN forgotten. -/
def nrm (k : FloatKind) (x : Nat) : Nat := if isN k x then qnan k else x
/-- What an operation gives, with the bits of a NaN forgotten. -/
def fop (op : BinOp) (k : FloatKind) (x y : Nat) : Nat := nrm k ((floatBits op k x y).getD (qnan k))

theorem isN_qnan (k : FloatKind) : isN k (qnan k) = true := by cases k <;> decide +kernel
theorem nrm_qnan (k : FloatKind) : nrm k (qnan k) = qnan k := by simp [nrm, isN_qnan]
theorem nrm_nrm (k : FloatKind) (x : Nat) : nrm k (nrm k x) = nrm k x := by
  unfold nrm
  by_cases h : isN k x = true
  · simp [isN_qnan, h]
  · simp [h]
theorem isN_nrm (k : FloatKind) (x : Nat) : isN k (nrm k x) = isN k x := by
  unfold nrm; split
  · rename_i h; simp [isN_qnan, h]
  · rfl
theorem nrm_of_not {k : FloatKind} {x : Nat} (h : isN k x = false) : nrm k x = x := by simp [nrm, h]
theorem nrm_of_nan {k : FloatKind} {x : Nat} (h : isN k x = true) : nrm k x = qnan k := by simp [nrm, h]

theorem isNaN_cases (d : Ieee.Datum) : d.isNaN = true → ∃ s f, d = .nan s f := by
  cases d <;> simp [Ieee.Datum.isNaN]

theorem sum_nan_left (d : Ieee.Datum) (s : Bool) (f : Nat) : Ieee.Datum.sum (.nan s f) d = none := by cases d <;> rfl
theorem sum_nan_right (d : Ieee.Datum) (s : Bool) (f : Nat) : Ieee.Datum.sum d (.nan s f) = none := by cases d <;> rfl
theorem product_nan_left (d : Ieee.Datum) (s : Bool) (f : Nat) : Ieee.Datum.product (.nan s f) d = none := by cases d <;> rfl
theorem product_nan_right (d : Ieee.Datum) (s : Bool) (f : Nat) : Ieee.Datum.product d (.nan s f) = none := by cases d <;> rfl
theorem quotient_nan_left (g : Nat) (d : Ieee.Datum) (s : Bool) (f : Nat) : Ieee.Datum.quotient g (.nan s f) d = none := by cases d <;> rfl
theorem quotient_nan_right (g : Nat) (d : Ieee.Datum) (s : Bool) (f : Nat) : Ieee.Datum.quotient g d (.nan s f) = none := by cases d <;> rfl
theorem order_nan_left (d : Ieee.Datum) (s : Bool) (f : Nat) : Ieee.Datum.order (.nan s f) d = none := by cases d <;> rfl
theorem order_nan_right (d : Ieee.Datum) (s : Bool) (f : Nat) : Ieee.Datum.order d (.nan s f) = none := by cases d <;> rfl

theorem floatBits_nan_left {op : BinOp} {k : FloatKind} {x y : Nat} (h : isN k x = true) : floatBits op k x y = none := by
  obtain ⟨s, f, e⟩ := isNaN_cases _ h
  have e' : k.format.read x = .nan s f := e
  cases op <;> simp [floatBits, Ieee.Format.add, Ieee.Format.sub, Ieee.Format.mul, Ieee.Format.div, e', sum_nan_left, product_nan_left, quotient_nan_left]
theorem floatBits_nan_right {op : BinOp} {k : FloatKind} {x y : Nat} (h : isN k y = true) : floatBits op k x y = none := by
  obtain ⟨s, f, e⟩ := isNaN_cases _ h
  have e' : k.format.read y = .nan s f := e
  cases op <;> simp [floatBits, Ieee.Format.add, Ieee.Format.sub, Ieee.Format.mul, Ieee.Format.div, e', sum_nan_right, product_nan_right, quotient_nan_right, Ieee.Datum.opposite]

theorem floatBits_nrm (op : BinOp) (k : FloatKind) (x y : Nat) : floatBits op k (nrm k x) (nrm k y) = floatBits op k x y := by
  by_cases hx : isN k x = true
  · rw [floatBits_nan_left (isN_nrm k x ▸ hx), floatBits_nan_left hx]
  · by_cases hy : isN k y = true
    · rw [floatBits_nan_right (isN_nrm k y ▸ hy), floatBits_nan_right hy]
    · rw [nrm_of_not (by simpa using hx), nrm_of_not (by simpa using hy)]

theorem fop_nrm (op : BinOp) (k : FloatKind) (x y : Nat) : fop op k (nrm k x) (nrm k y) = fop op k x y := by
  unfold fop; rw [floatBits_nrm]
theorem nrm_fop (op : BinOp) (k : FloatKind) (x y : Nat) : nrm k (fop op k x y) = fop op k x y := by unfold fop; rw [nrm_nrm]

theorem order_nrm (k : FloatKind) (x y : Nat) : k.format.order (nrm k x) (nrm k y) = k.format.order x y := by
  unfold Ieee.Format.order
  by_cases hx : isN k x = true
  · obtain ⟨s, f, e⟩ := isNaN_cases _ hx
    obtain ⟨s', f', e'⟩ := isNaN_cases _ (isN_nrm k x ▸ hx)
    rw [show k.format.read x = .nan s f from e, show k.format.read (nrm k x) = .nan s' f' from e', order_nan_left, order_nan_left]
  · by_cases hy : isN k y = true
    · obtain ⟨s, f, e⟩ := isNaN_cases _ hy
      obtain ⟨s', f', e'⟩ := isNaN_cases _ (isN_nrm k y ▸ hy)
      rw [show k.format.read y = .nan s f from e, show k.format.read (nrm k y) = .nan s' f' from e', order_nan_right, order_nan_right]
    · rw [nrm_of_not (by simpa using hx), nrm_of_not (by simpa using hy)]

/-- 'x == y', 'x < y', .. as a Bool function of the words with the bits of a NaN forgotten. -/
def fcmp (op : BinOp) (k : FloatKind) (x y : Nat) : Bool :=
  let c := k.format.order x y
  match op with
  | .eql => c == some .eq
  | .neq => c != some .eq
  | .lss => c == some .lt
  | .leq => c == some .lt || c == some .eq
  | .gtr => c == some .gt
  | .geq => c == some .gt || c == some .eq
  | _ => false

theorem fcmp_nrm (op : BinOp) (k : FloatKind) (x y : Nat) : fcmp op k (nrm k x) (nrm k y) = fcmp op k x y := by
  unfold fcmp; rw [order_nrm]

/-- The conversion between the kinds, with the bits of a NaN forgotten ('what': where a number is too great for the narrower kind the result is not told here). -/
def fcvt (s k : FloatKind) (x : Nat) : Nat := (floatToFloatBits s x k).getD (qnan k)

/-- The kinds' conversion is told: a NaN, an infinity, or a number that does not pass the narrower kind. -/
def fits (s k : FloatKind) (x : Nat) : Bool := isN s x || (floatToFloatBits s x k).isSome

theorem read_nan (f : Ieee.Format) (x : Nat) (h : f.infRung < x % f.signWeight) (hb : f.binade ≤ f.infRung) : (f.read x).isNaN = true := by
  unfold Ieee.Format.read
  simp only
  rw [if_neg (by omega), if_neg (by omega), if_neg (by omega)]
  rfl

theorem choose_nan_f32 (k : FloatKind) (x y t : Nat) : isN k (Question.cut (.nanBits k x y) t) = true := by
  have h1 : t % 2 < 2 := Nat.mod_lt _ (by decide)
  cases k
  · have h2 : (t / 2) % 8388607 < 8388607 := Nat.mod_lt _ (by decide)
    have e1 : Ieee.single.signWeight = 2147483648 := by decide +kernel
    have e2 : Ieee.single.binade = 8388608 := by decide +kernel
    have e3 : Ieee.single.infRung = 2139095040 := by decide +kernel
    show (Ieee.single.read ((t % 2) * 2 ^ 31 + 0x7f800000 + 1 + (t / 2) % 8388607)).isNaN = true
    generalize t % 2 = s at *
    generalize (t / 2) % 8388607 = f at *
    have hs : s = 0 ∨ s = 1 := by omega
    exact read_nan _ _ (by rw [e1, e3]; rcases hs with rfl | rfl <;> omega) (by rw [e2, e3]; omega)
  · have h2 : (t / 2) % 4503599627370495 < 4503599627370495 := Nat.mod_lt _ (by decide)
    have e1 : Ieee.double.signWeight = 9223372036854775808 := by decide +kernel
    have e2 : Ieee.double.binade = 4503599627370496 := by decide +kernel
    have e3 : Ieee.double.infRung = 9218868437227405312 := by decide +kernel
    show (Ieee.double.read ((t % 2) * 2 ^ 63 + 0x7ff0000000000000 + 1 + (t / 2) % 4503599627370495)).isNaN = true
    generalize t % 2 = s at *
    generalize (t / 2) % 4503599627370495 = f at *
    have hs : s = 0 ∨ s = 1 := by omega
    exact read_nan _ _ (by rw [e1, e3]; rcases hs with rfl | rfl <;> omega) (by rw [e2, e3]; omega)

theorem choose_conv (k : FloatKind) (x t : Nat) : isN k (Question.cut (.nanConv k x) t) = true := by
  cases k
  · exact choose_nan_f32 .f32 x x t
  · exact choose_nan_f32 .f64 x x t

section
variable (P : Program) (w : World) (a : Addr) (m : Mode)
@[go_sem] theorem run_store_float (k : FloatKind) (b : Nat) : (store a (.float k b) m).run P w = stored P w a (.float k b) m := run_store P w a _ m rfl
@[go_sem] theorem run_store_complex (k : FloatKind) (b c : Nat) : (store a (.complex k b c) m).run P w = stored P w a (.complex k b c) m := run_store P w a _ m rfl
end

def isArith : BinOp → Bool
  | .add | .sub | .mul | .quo => true
  | _ => false

section
variable {P : Program} (w : World)
theorem run_fop (op : BinOp) (hop : isArith op = true) (t : TypeId) (k : FloatKind) (x y : Nat) :
    ∃ r n, (binOp op t (.float k x) (.float k y)).run P w = .ok (.float k r) (w.drewN n) ∧ nrm k r = fop op k (nrm k x) (nrm k y) := by
  rw [fop_nrm]
  cases h : floatBits op k x y with
  | some r =>
    exact ⟨r, 0, run_float_arith w op t k x y r h, by simp [fop, h]⟩
  | none =>
    have hc := choose_nan_f32 k x y (w.tape w.drawn (.nanBits k x y))
    refine ⟨Question.cut (.nanBits k x y) (w.tape w.drawn (.nanBits k x y)), 1, ?_, ?_⟩
    · cases op <;> simp only [isArith] at hop <;> first | (cases hop; done) | skip
      all_goals simp only [floatBits] at h
      all_goals simp [binOp, Op.floatArith, h, Question.forced, World.drew_is_drewN]
    · simp [fop, h, nrm_qnan, nrm_of_nan hc]

theorem run_fcmp (op : BinOp) (t : TypeId) (k : FloatKind) (x y : Nat) (hop : op = .eql ∨ op = .neq ∨ op = .lss ∨ op = .leq ∨ op = .gtr ∨ op = .geq) :
    (binOp op t (.float k x) (.float k y)).run P w = .ok (.bool (fcmp op k (nrm k x) (nrm k y))) w := by
  rw [fcmp_nrm]
  rcases hop with rfl | rfl | rfl | rfl | rfl | rfl <;> simp [binOp, Op.floatCmp, fcmp]

theorem run_fcvt (src dst : TypeId) (s k : FloatKind) (x : Nat) (hs : (P.underlying src).isSome = true) (hd : P.underlying dst = some (.float k)) (hf : fits s k (nrm s x) = true) :
    ∃ r n, (convert src dst (.float s x)).run P w = .ok (.float k r) (w.drewN n) ∧ nrm k r = nrm k (fcvt s k (nrm s x)) := by
  by_cases hn : isN s x = true
  · obtain ⟨u, hs'⟩ := Option.isSome_iff_exists.1 hs
    obtain ⟨sg, f, e⟩ := isNaN_cases _ hn
    have e' : s.decode x = .nan sg f := e
    by_cases hsk : s = k
    · subst hsk
      refine ⟨x, 0, ?_, ?_⟩
      · cases u <;> simp [convert, run_underlying hs', run_underlying hd, Conv.floatToFloat, World.drewN_zero]
      · simp [fcvt, floatToFloatBits, nrm_nrm]
    · have hc := choose_conv k x (w.tape w.drawn (.nanConv k x))
      refine ⟨Question.cut (.nanConv k x) (w.tape w.drawn (.nanConv k x)), 1, ?_, ?_⟩
      · cases u <;> simp [convert, run_underlying hs', run_underlying hd, Conv.floatToFloat, hsk, e', Question.forced, World.drew_is_drewN]
      · obtain ⟨sg', f', e2⟩ := isNaN_cases _ (isN_nrm s x ▸ hn)
        have e2' : s.decode (nrm s x) = .nan sg' f' := e2
        rw [nrm_of_nan hc]
        simp [fcvt, floatToFloatBits, hsk, e2', nrm_qnan]
  · have hn' : isN s x = false := by simpa using hn
    rw [nrm_of_not hn'] at hf ⊢
    simp only [fits, hn', Bool.false_or] at hf
    obtain ⟨r, hr⟩ := Option.isSome_iff_exists.1 hf
    exact ⟨r, 0, run_convert_float_float w src dst s k x r hs hd hr, by simp [fcvt, hr]⟩
end

section
variable {P : Program} {w : World} {ops : Array Oper} {rest : List Oper} {o : Oper} {a : Act} {Q : Exit → Act → World → Prop}
theorem wpList_wanted (hgd : Region.wanted o (yielded ops a.tmps) = true) (h : ∀ K : Act → World → Prop, (∀ a w, wpList P ops Q rest a w → K a w) → o.wp P a w K Q) : wpList P ops Q (o :: rest) a w :=
  wpList_step fun K hK => by rw [if_pos hgd]; exact h K hK

/-- THE WALK's LAW FOR '+', '-', '*', '/' ON FLOATS. -/
theorem wpList_fopg (op : BinOp) (t t' : TypeId) (X Y : Operand) (ho : o.op = .binOp op t X Y t') (hop : isArith op = true) (k : FloatKind) (x y : Nat)
    (hx : a.eval X = .float k x) (hy : a.eval Y = .float k y) (hgd : Region.wanted o (yielded ops a.tmps) = true)
    (h : ∀ r n, nrm k r = fop op k (nrm k x) (nrm k y) → wpList P ops Q rest (a.put o.dst (.float k r)) (w.drewN n)) : wpList P ops Q (o :: rest) a w := by
  refine wpList_wanted hgd fun K hK => ?_
  obtain ⟨r, n, hrun, hr⟩ := run_fop (P := P) w op hop t k x y
  unfold Oper.wp
  cases op <;> simp only [isArith] at hop <;> first | (cases hop; done) | skip
  all_goals
    simp [execOp, ho, hx, hy, hrun, Result.andThen, eqGuard]
    exact hK _ _ (h r n hr)

theorem wpList_fop (hgd : o.guard = none) (op : BinOp) (t t' : TypeId) (X Y : Operand) (ho : o.op = .binOp op t X Y t') (hop : isArith op = true) (k : FloatKind) (x y : Nat)
    (hx : a.eval X = .float k x) (hy : a.eval Y = .float k y)
    (h : ∀ r n, nrm k r = fop op k (nrm k x) (nrm k y) → wpList P ops Q rest (a.put o.dst (.float k r)) (w.drewN n)) : wpList P ops Q (o :: rest) a w :=
  wpList_fopg op t t' X Y ho hop k x y hx hy (by simp [Region.wanted, hgd]) h

theorem wpList_fcvtg (src dst : TypeId) (X : Operand) (ho : o.op = .convert src dst X) (s k : FloatKind) (x : Nat)
    (hs : (P.underlying src).isSome = true) (hd : P.underlying dst = some (.float k)) (hx : a.eval X = .float s x) (hf : fits s k (nrm s x) = true) (hgd : Region.wanted o (yielded ops a.tmps) = true)
    (h : ∀ r n, nrm k r = nrm k (fcvt s k (nrm s x)) → wpList P ops Q rest (a.put o.dst (.float k r)) (w.drewN n)) : wpList P ops Q (o :: rest) a w := by
  refine wpList_wanted hgd fun K hK => ?_
  obtain ⟨r, n, hrun, hr⟩ := run_fcvt (P := P) w src dst s k x hs hd hf
  unfold Oper.wp
  simp [execOp, ho, hx, hrun, Result.andThen]
  exact hK _ _ (h r n hr)
end

end Go.Proofs.Ytklonahkacikbaa

/- Regions that draw their order, whose operations may draw too (a NaN's bits) and whose calls answer up to a relation: one walk of the text's order serves every order; the last operations may write. Conditions: none. -/
namespace Go.Proofs.Ytklonahkacikbaa
set_option linter.unusedSimpArgs false
set_option linter.unusedVariables false
open Go

section
variable {P : Program} {ops : Array Oper} {md : Region.Mode} {C : World → Prop} {G : FuncId → Array Value → Value → Prop}

/-- In every world of the class the operation yields something and leaves a world of the class; a call returns what 'G' lets. -/
def Good (P : Program) (C : World → Prop) (G : FuncId → Array Value → Value → Prop) (s : Sem Next) : Prop :=
  ∀ w, C w → match s.run P w with
    | .ok (.value _) w' => C w'
    | .ok .skip w' => C w'
    | .ok (.enter f args) w' => Calls P f args w' (fun e w'' => ∃ u, e = .returned u ∧ G f args u ∧ C w'')
    | _ => False

/-- What the operation may yield in some world of the class. -/
def Outs (P : Program) (C : World → Prop) (G : FuncId → Array Value → Value → Prop) (s : Sem Next) (u : Value) : Prop :=
  ∃ w, C w ∧ match s.run P w with
    | .ok (.value x) _ => u = x
    | .ok .skip _ => u = undef
    | .ok (.enter f args) _ => G f args u
    | _ => False

theorem Good.outs {s : Sem Next} (h : Good P C G s) {w : World} (hw : C w) : ∃ u, Outs P C G s u := by
  have h1 := h w hw
  unfold Outs
  cases hr : s.run P w with
  | halt x w' => rw [hr] at h1; exact h1.elim
  | ok n w' =>
    rw [hr] at h1
    cases n <;> simp only at h1
    case value x => exact ⟨x, w, hw, by rw [hr]⟩
    case skip => exact ⟨undef, w, hw, by rw [hr]⟩
    case enter f args =>
      obtain ⟨_, _, _, ⟨u, _, hg, _⟩, _⟩ := h1 []
      exact ⟨u, w, hw, by rw [hr]; exact hg⟩

/-- One operation, what follows behind 'K'. -/
def vOne (P : Program) (ops : Array Oper) (C : World → Prop) (G : FuncId → Array Value → Value → Prop) (o : Oper) (K : Act → Prop) (a : Act) : Prop :=
  (Region.wanted o (yielded ops a.tmps) = true → Good P C G (execOp a.eval o) ∧ ∀ u, Outs P C G (execOp a.eval o) u → K (a.put o.dst u)) ∧
  (Region.wanted o (yielded ops a.tmps) = false → K (a.put o.dst undef))

theorem vOne_mono {o : Oper} {K K' : Act → Prop} {a : Act} (h : ∀ a, K a → K' a) (hh : vOne P ops C G o K a) : vOne P ops C G o K' a :=
  ⟨fun hw => ⟨(hh.1 hw).1, fun u hu => h _ ((hh.1 hw).2 u hu)⟩, fun hw => h _ (hh.2 hw)⟩

/-- The text's order. -/
def wpV (P : Program) (ops : Array Oper) (C : World → Prop) (G : FuncId → Array Value → Value → Prop) (Q : Act → Prop) : List Oper → Act → Prop
  | [], a => Q a
  | o :: rest, a => vOne P ops C G o (wpV P ops C G Q rest) a

/-- The operation is apart: it may be taken ahead of the other one. -/
theorem vOne_swap {oi oj : Oper} (hap : oi.apart ops oj = true) (hsi : ∀ cs b, oi.op ≠ .select cs b) (hsj : ∀ cs b, oj.op ≠ .select cs b) {K : Act → Prop} {a : Act} {w : World} (hw : C w)
    (h : vOne P ops C G oi (vOne P ops C G oj K) a) : vOne P ops C G oj (vOne P ops C G oi K) a := by
  obtain ⟨h1, h2, h3⟩ := Oper.apart_spec hap
  have ei : ∀ u, execOp (a.put oj.dst u).eval oi = execOp a.eval oi := fun u => execOp_put oi hsi a oj.dst u h3
  have ej : ∀ u, execOp (a.put oi.dst u).eval oj = execOp a.eval oj := fun u => execOp_put oj hsj a oi.dst u h1
  have wi : ∀ u, Region.wanted oi (yielded ops (a.put oj.dst u).tmps) = Region.wanted oi (yielded ops a.tmps) := fun u => wanted_put oi a oj.dst u h3
  have wj : ∀ u, Region.wanted oj (yielded ops (a.put oi.dst u).tmps) = Region.wanted oj (yielded ops a.tmps) := fun u => wanted_put oj a oi.dst u h1
  have pc : ∀ v u, (a.put oi.dst v).put oj.dst u = (a.put oj.dst u).put oi.dst v := fun v u => Act.put_comm a v u h2
  -- some value that 'oi' may leave
  obtain ⟨v0, hv0, _⟩ : ∃ v, vOne P ops C G oj K (a.put oi.dst v) ∧ True := by
    cases hwi : Region.wanted oi (yielded ops a.tmps) with
    | true =>
      obtain ⟨g, ho⟩ := h.1 hwi
      obtain ⟨v, hv⟩ := g.outs hw
      exact ⟨v, ho v hv, trivial⟩
    | false => exact ⟨undef, h.2 hwi, trivial⟩
  refine ⟨fun hwj => ⟨?_, fun u hu => ⟨fun hwi => ⟨?_, fun v hv => ?_⟩, fun hwi => ?_⟩⟩, fun hwj => ⟨fun hwi => ⟨?_, fun v hv => ?_⟩, fun hwi => ?_⟩⟩
  · have := (hv0.1 (by rw [wj]; exact hwj)).1
    rwa [ej] at this
  · rw [wi] at hwi; rw [ei]; exact (h.1 hwi).1
  · rw [wi] at hwi; rw [ei] at hv
    have := ((h.1 hwi).2 v hv).1 (by rw [wj]; exact hwj)
    rw [ej] at this
    have := this.2 u hu
    rwa [pc] at this
  · rw [wi] at hwi
    have := (h.2 hwi).1 (by rw [wj]; exact hwj)
    rw [ej] at this
    have := this.2 u hu
    rwa [pc] at this
  · rw [wi] at hwi; rw [ei]; exact (h.1 hwi).1
  · rw [wi] at hwi; rw [ei] at hv
    have := ((h.1 hwi).2 v hv).2 (by rw [wj]; exact hwj)
    rwa [pc] at this
  · rw [wi] at hwi
    have := (h.2 hwi).2 (by rw [wj]; exact hwj)
    rwa [pc] at this

/-- Operation number 'i' comes up. -/
def vOp (P : Program) (ops : Array Oper) (C : World → Prop) (G : FuncId → Array Value → Value → Prop) (i : Nat) (K : Act → Prop) (a : Act) : Prop :=
  match ops[i]? with
  | none => K a
  | some o => vOne P ops C G o K a

/-- Whatever order is picked from here on, till 'f' operations have come up; each below 'n'. -/
def wpAnyV (P : Program) (md : Region.Mode) (ops : Array Oper) (C : World → Prop) (G : FuncId → Array Value → Value → Prop) (n : Nat) (L : Array Bool → Act → Prop) : Nat → Array Bool → Act → Prop
  | 0, listed, a => L listed a
  | f + 1, listed, a => Region.ready md ops listed ≠ [] ∧ ∀ i ∈ Region.ready md ops listed, i < n ∧ vOp P ops C G i (wpAnyV P md ops C G n L f (listed.setIfInBounds i true)) a

theorem wp_of_vOne {o : Oper} {a : Act} {K : Act → Prop} {K' : Act → World → Prop} {Q' : Exit → Act → World → Prop} {w : World} (hC : C w) (h : ∀ a w', C w' → K a → K' a w')
    (g : Good P C G (execOp a.eval o)) (ho : ∀ u, Outs P C G (execOp a.eval o) u → K (a.put o.dst u)) : o.wp P a w K' Q' := by
  have h1 := g w hC
  have h2 : ∀ u, (match (execOp a.eval o).run P w with
    | .ok (.value x) _ => u = x
    | .ok .skip _ => u = undef
    | .ok (.enter f args) _ => G f args u
    | _ => False) → K (a.put o.dst u) := fun u hu => ho u ⟨w, hC, hu⟩
  unfold Oper.wp
  generalize (execOp a.eval o).run P w = r at *
  cases r with
  | halt x w' => exact h1.elim
  | ok n w' =>
    cases n <;> simp only at h1 h2 <;> simp only [Oper.upon]
    case value x => exact h _ _ h1 (h2 x rfl)
    case skip => exact h _ _ h1 (h2 undef rfl)
    case enter f args => exact h1.mono fun e w'' ⟨u, he, hg, hw''⟩ => by subst he; exact h _ _ hw'' (h2 u hg)

theorem wpOp_of_vOp {i : Nat} {a : Act} {K : Act → Prop} {K' : Act → World → Prop} {Q' : Exit → Act → World → Prop} {w : World} (hC : C w) (h : ∀ a w', C w' → K a → K' a w') (hh : vOp P ops C G i K a) : wpOp P ops Q' i K' a w := by
  unfold vOp at hh
  unfold wpOp
  split
  · rename_i ho; simp only [ho] at hh; exact h _ _ hC hh
  · rename_i o ho
    simp only [ho] at hh
    split
    · rename_i hw; exact .inl (wp_of_vOne hC h (hh.1 hw).1 (hh.1 hw).2)
    · rename_i hw; exact h _ _ hC (hh.2 (by simpa using hw))

theorem wpAny_of_v {n g : Nat} {L : Array Bool → Act → Prop} {Q' : Exit → Act → World → Prop} (hL : ∀ listed a w, C w → L listed a → wpAny P md ops Q' g listed a w) :
    ∀ (f : Nat) (listed : Array Bool) (a : Act) (w : World), C w → wpAnyV P md ops C G n L f listed a → wpAny P md ops Q' (f + g) listed a w
  | 0, listed, a, w, hw, h => by rw [Nat.zero_add]; exact hL _ _ _ hw h
  | f + 1, listed, a, w, hw, h => by
    rw [show f + 1 + g = (f + g) + 1 by omega]
    exact ⟨fun h0 => absurd h0 h.1, fun i hi => wpOp_of_vOp hw (fun a' w' hw' h' => wpAny_of_v hL f _ a' w' hw' h') (h.2 i hi).2⟩

theorem vOp_mono {i : Nat} {a : Act} {K K' : Act → Prop} (h : ∀ a, K a → K' a) (hh : vOp P ops C G i K a) : vOp P ops C G i K' a := by
  unfold vOp at *
  split
  · rename_i ho; simp only [ho] at hh; exact h _ hh
  · rename_i o ho; simp only [ho] at hh; exact vOne_mono h hh

/-- An operation that may come up now may be taken first. -/
theorem wpAnyV_first {n i : Nat} {oi : Oper} {L : Array Bool → Act → Prop} (hi : ops[i]? = some oi) (hsel : ∀ (j : Nat) (o : Oper) cs b, ops[j]? = some o → o.op ≠ .select cs b) {w : World} (hw : C w) (hin : i < n)
    (hwait : ∀ listed, HeadInv md ops n listed → ∀ i, i < n → listed.getD i true = false → ∀ t, n ≤ t → t ∉ Region.ready md ops listed)
    (hdone : ∀ listed a, L listed a → ∀ j ∈ Region.ready md ops listed, n ≤ j) :
    ∀ (f : Nat) (listed : Array Bool) (a : Act), HeadInv md ops n listed →
      (∀ j oj, ops[j]? = some oj → j ≠ i → listed.getD j true = false → (∀ e ∈ oj.after, Region.binds md e = true → e.on ≠ i) → oi.apart ops oj = true) →
      i ∈ Region.ready md ops listed →
      vOne P ops C G oi (wpAnyV P md ops C G n L f (listed.setIfInBounds i true)) a → wpAnyV P md ops C G n L (f + 1) listed a := by
  have some_of : ∀ {K : Act → Prop} {a : Act}, vOne P ops C G oi K a → ∃ v, K (a.put oi.dst v) := by
    intro K a h
    cases hwi : Region.wanted oi (yielded ops a.tmps) with
    | true =>
      obtain ⟨g, ho⟩ := h.1 hwi
      obtain ⟨v, hv⟩ := g.outs hw
      exact ⟨v, ho v hv⟩
    | false => exact ⟨undef, h.2 hwi⟩
  intro f
  induction f with
  | zero =>
    intro listed a inv _ hr H
    have hun := (mem_ready.1 hr).1
    refine ⟨fun h => (by rw [h] at hr; cases hr), fun j hj => ?_⟩
    have hjn : j < n := by
      rcases Nat.lt_or_ge j n with h | h
      · exact h
      · exact absurd hj (hwait _ inv i hin hun j h)
    refine ⟨hjn, ?_⟩
    by_cases hji : j = i
    · subst hji; unfold vOp; simp only [hi]; exact H
    · obtain ⟨v, hv⟩ := some_of H
      have := hdone _ _ hv j (ready_mono hj hji)
      omega
  | succ f ih =>
    intro listed a inv hfree hr H
    have hun := (mem_ready.1 hr).1
    refine ⟨fun h => (by rw [h] at hr; cases hr), fun j hj => ?_⟩
    have hjn : j < n := by
      rcases Nat.lt_or_ge j n with h | h
      · exact h
      · exact absurd hj (hwait _ inv i hin hun j h)
    refine ⟨hjn, ?_⟩
    by_cases hji : j = i
    · subst hji; unfold vOp; simp only [hi]; exact H
    · obtain ⟨hjun, oj, hoj, hall⟩ := mem_ready.1 hj
      have hnot : ∀ e ∈ oj.after, Region.binds md e = true → e.on ≠ i := fun e he hb heq => by
        have h1 := hall e he hb
        rw [heq, getD_both hun] at h1
        cases h1
      have h1 : vOne P ops C G oi (vOne P ops C G oj (wpAnyV P md ops C G n L f ((listed.setIfInBounds i true).setIfInBounds j true))) a :=
        vOne_mono (fun a' h' => by
          have := (h'.2 j (ready_mono hj hji)).2
          unfold vOp at this
          simpa only [hoj] using this) H
      have h2 := vOne_swap (hfree j oj hoj hji hjun hnot) (fun cs b => hsel i oi cs b hi) (fun cs b => hsel j oj cs b hoj) hw h1
      have hfree' : ∀ k ok, ops[k]? = some ok → k ≠ i → (listed.setIfInBounds j true).getD k true = false →
          (∀ e ∈ ok.after, Region.binds md e = true → e.on ≠ i) → oi.apart ops ok = true := fun k ok hk hki hun' hno => by
        refine hfree k ok hk hki ?_ hno
        by_cases hjk : j = k
        · subst hjk; exact hjun
        · rw [getD_set_ne true hjk] at hun'; exact hun'
      unfold vOp
      simp only [hoj]
      refine vOne_mono (fun a' h3 => ih (listed.setIfInBounds j true) a' (inv.set hj hjn) hfree' (ready_mono hr (Ne.symm hji)) ?_) h2
      rw [Array.setIfInBounds_comm _ _ hji]
      exact h3

theorem wpAnyV_lex {n g : Nat} {Lq : Act → Prop} (hsel : Region.noSelect ops = true) {w : World} (hw : C w)
    (hwait : ∀ listed, HeadInv md ops n listed → ∀ i, i < n → listed.getD i true = false → ∀ t, n ≤ t → t ∉ Region.ready md ops listed) :
    ∀ (l : List Oper) (k : Nat) (listed : Array Bool) (a : Act), (∀ j, j < l.length → l[j]? = ops[k + j]?) → k + l.length = n → HeadInv md ops n listed →
    Region.lexHead md ops g l.length k listed = true → wpV P ops C G Lq l a →
    wpAnyV P md ops C G n (fun listed' a' => Region.seqB md ops g n listed' = true ∧ Lq a') l.length listed a
  | [], k, listed, a, _, hk, _, hB, h => by
    have : k = n := by simpa using hk
    subst this
    exact ⟨by simpa [Region.lexHead] using hB, h⟩
  | o :: l, k, listed, a, hl, hk, inv, hB, h => by
    have h0 : ops[k]? = some o := by simpa using (hl 0 (by simp)).symm
    simp only [List.length_cons, Region.lexHead, Bool.and_eq_true] at hB
    obtain ⟨⟨hr, hf⟩, hB'⟩ := hB
    have hkn : k < n := by simp only [List.length_cons] at hk; omega
    have hr' : k ∈ Region.ready md ops listed := by simpa using hr
    exact wpAnyV_first h0 (Region.noSelect_spec hsel) hw hkn hwait (fun listed' a' hL => seqB_ready hL.1) l.length listed a inv (Region.free_spec h0 hf) hr'
      (vOne_mono (fun a' h' => wpAnyV_lex hsel hw hwait l (k + 1) _ a' (fun j hj => by have := hl (j + 1) (by simp; omega); simpa [Nat.add_assoc, Nat.add_comm 1 j] using this) (by simp only [List.length_cons] at hk; omega) (inv.set hr' hkn) hB' h') h)

/-- A region whose first 'n' operations are walked in the text's order, the rest (perhaps none) behind them. -/
def Region.lexVB (md : Region.Mode) (ops : Array Oper) (n : Nat) : Bool :=
  Region.noSelect ops && (decide (n = ops.size) || decide (n < ops.size) && Region.sinkB md ops n && Region.chainB md ops n) && Region.lexHead md ops (ops.size - n) n 0 (Array.replicate ops.size false)

theorem wp_region_v {id : Nat} {Q : Exit → Act → World → Prop} {a : Act} {w : World} {l : List Oper} (n : Nat) (G : FuncId → Array Value → Value → Prop) (hm : P.follows .mixedOrders = true) (hB : Region.lexVB .any l.toArray n = true)
    (h : wpV P l.toArray (fun w' => ∃ m, w' = w.drewN m) G (fun a' => ∀ m, wpList P l.toArray Q (l.drop n) a' (w.drewN m)) (l.take n) a) : (Code.region id l.toArray true).wp P Q a w := by
  simp only [Region.lexVB, Bool.and_eq_true, Bool.or_eq_true, decide_eq_true_eq] at hB
  obtain ⟨⟨hsel, hn⟩, hlex⟩ := hB
  have hnle : n ≤ l.length := by
    rcases hn with hn | ⟨⟨hn, _⟩, _⟩
    · simp at hn; omega
    · simp at hn; omega
  have hwait : ∀ listed, HeadInv .any l.toArray n listed → ∀ i, i < n → listed.getD i true = false → ∀ t, n ≤ t → t ∉ Region.ready .any l.toArray listed := by
    rcases hn with hn | ⟨⟨hn, hs⟩, hc⟩
    · intro listed _ i _ _ t ht hr
      obtain ⟨_, ot, hot, _⟩ := mem_ready.1 hr
      have := (Array.getElem?_eq_some_iff.1 hot).1
      omega
    · intro listed inv i hi hun t ht
      exact tail_waits hs hc hn inv _ i rfl hi hun t ht
  have htl : (l.take n).length = n := by simp; omega
  have hdl : (l.drop n).length = l.toArray.size - n := by simp
  have inv0 : HeadInv .any l.toArray n (Array.replicate l.toArray.size false) :=
    ⟨by simp, fun j oj _ hl => (by rw [getD_replicate_false] at hl; cases hl), fun t _ ht => getD_in (by simpa using ht) (getD_replicate_false _ _)⟩
  have hC : (fun w' : World => ∃ m, w' = w.drewN m) { w with drawn := w.drawn + 1 } := ⟨1, rfl⟩
  have H := wpAnyV_lex (md := .any) (g := l.toArray.size - n) hsel hC hwait (l.take n) 0 _ a (fun j hj => by
    have hj' : j < n := by rw [htl] at hj; exact hj
    simp [hj']) (by simpa using htl) inv0 (by rw [htl]; exact hlex) h
  refine wp_region_any hm ?_
  have := wpAny_of_v (Q' := Q) (g := l.toArray.size - n) (fun listed a' w' hw' hL => by
    obtain ⟨m, rfl⟩ := hw'
    have := wpAny_of_seq (md := .any) (Q' := Q) (l.drop n) n listed a' (w.drewN m) (fun j => by simp [List.getElem?_drop]) (by rw [hdl]; exact hL.1) (hL.2 m)
    rwa [hdl] at this) _ _ _ _ hC H
  rw [htl, show n + (l.toArray.size - n) = l.toArray.size by simp; omega] at this
  exact this
end

/-! The steps of the walk: what follows stands behind 'K', so that the frame can be written out. -/
section
variable {P : Program} {ops : Array Oper} {G : FuncId → Array Value → Value → Prop} {Q : Act → Prop} {w : World} {a : Act} {o : Oper} {rest : List Oper}

theorem wpV_nil (h : Q a) : wpV P ops (fun w' => ∃ m, w' = w.drewN m) G Q [] a := h

/-- What follows. -/
def Rest (P : Program) (ops : Array Oper) (w : World) (G : FuncId → Array Value → Value → Prop) (Q : Act → Prop) (rest : List Oper) (K : Act → Prop) : Prop := ∀ a, wpV P ops (fun w' => ∃ m, w' = w.drewN m) G Q rest a → K a
theorem Rest.use {K : Act → Prop} (h : Rest P ops w G Q rest K) {a : Act} (ha : wpV P ops (fun w' => ∃ m, w' = w.drewN m) G Q rest a) : K a := h a ha

/-- An operation that gives one value and leaves the world. -/
theorem wpV_det (hgd : Region.wanted o (yielded ops a.tmps) = true) (v : Value) (hr : ∀ m, (execOp a.eval o).run P (w.drewN m) = .ok (.value v) (w.drewN m))
    (h : ∀ K, Rest P ops w G Q rest K → K (a.put o.dst v)) : wpV P ops (fun w' => ∃ m, w' = w.drewN m) G Q (o :: rest) a := by
  refine ⟨fun _ => ⟨fun w' ⟨m, hm⟩ => ?_, fun u ⟨w', ⟨m, hm⟩, hu⟩ => ?_⟩, fun hw => by rw [hgd] at hw; cases hw⟩
  · subst hm; rw [hr m]; exact ⟨m, rfl⟩
  · subst hm; rw [hr m] at hu; simp only at hu; subst hu; exact h _ (fun _ h => h)

theorem wpV_off (hgd : Region.wanted o (yielded ops a.tmps) = false) (h : ∀ K, Rest P ops w G Q rest K → K (a.put o.dst undef)) : wpV P ops (fun w' => ∃ m, w' = w.drewN m) G Q (o :: rest) a :=
  ⟨fun hw => absurd hw (by simp [hgd]), fun _ => h _ (fun _ h => h)⟩

/-- An operation that may give several values. -/
theorem wpV_some (hgd : Region.wanted o (yielded ops a.tmps) = true) (V : Value → Prop) (hr : ∀ m, ∃ v m', (execOp a.eval o).run P (w.drewN m) = .ok (.value v) (w.drewN m') ∧ V v)
    (h : ∀ v, V v → ∀ K, Rest P ops w G Q rest K → K (a.put o.dst v)) : wpV P ops (fun w' => ∃ m, w' = w.drewN m) G Q (o :: rest) a := by
  refine ⟨fun _ => ⟨fun w' ⟨m, hm⟩ => ?_, fun u ⟨w', ⟨m, hm⟩, hu⟩ => ?_⟩, fun hw => by rw [hgd] at hw; cases hw⟩
  · subst hm
    obtain ⟨v, m', e, hv⟩ := hr m
    rw [e]; exact ⟨m', rfl⟩
  · subst hm
    obtain ⟨v, m', e, hv⟩ := hr m
    rw [e] at hu; simp only at hu; subst hu; exact h _ hv _ (fun _ h => h)

/-- A call. -/
theorem wpV_call (hgd : Region.wanted o (yielded ops a.tmps) = true) (f : FuncId) (args : Array Value) (hr : ∀ m, (execOp a.eval o).run P (w.drewN m) = .ok (.enter f args) (w.drewN m))
    (hc : ∀ m, Calls P f args (w.drewN m) (fun e w'' => ∃ u, e = .returned u ∧ G f args u ∧ ∃ m', w'' = w.drewN m'))
    (h : ∀ u, G f args u → ∀ K, Rest P ops w G Q rest K → K (a.put o.dst u)) : wpV P ops (fun w' => ∃ m, w' = w.drewN m) G Q (o :: rest) a := by
  refine ⟨fun _ => ⟨fun w' ⟨m, hm⟩ => ?_, fun u ⟨w', ⟨m, hm⟩, hu⟩ => ?_⟩, fun hw => by rw [hgd] at hw; cases hw⟩
  · subst hm; rw [hr m]; exact hc m
  · subst hm; rw [hr m] at hu; simp only at hu; exact h _ hu _ (fun _ h => h)

theorem wpV_fop (op : BinOp) (t t' : TypeId) (X Y : Operand) (ho : o.op = .binOp op t X Y t') (hop : isArith op = true) (k : FloatKind) (x y : Nat)
    (hx : a.eval X = .float k x) (hy : a.eval Y = .float k y) (hgd : Region.wanted o (yielded ops a.tmps) = true)
    (h : ∀ r, nrm k r = fop op k (nrm k x) (nrm k y) → ∀ K, Rest P ops w G Q rest K → K (a.put o.dst (.float k r))) : wpV P ops (fun w' => ∃ m, w' = w.drewN m) G Q (o :: rest) a := by
  refine wpV_some hgd (fun v => ∃ r, v = .float k r ∧ nrm k r = fop op k (nrm k x) (nrm k y)) (fun m => ?_) (fun v ⟨r, hv, hr⟩ => by subst hv; exact h r hr)
  obtain ⟨r, n, hrun, hr⟩ := run_fop (P := P) (w.drewN m) op hop t k x y
  rw [World.drewN_drewN] at hrun
  refine ⟨.float k r, m + n, ?_, r, rfl, hr⟩
  cases op <;> simp only [isArith] at hop <;> first | (cases hop; done) | skip
  all_goals simp [execOp, ho, hx, hy, hrun, Result.andThen, eqGuard]

theorem wpV_fcvt (src dst : TypeId) (X : Operand) (ho : o.op = .convert src dst X) (s k : FloatKind) (x : Nat)
    (hs : (P.underlying src).isSome = true) (hd : P.underlying dst = some (.float k)) (hx : a.eval X = .float s x) (hf : fits s k (nrm s x) = true) (hgd : Region.wanted o (yielded ops a.tmps) = true)
    (h : ∀ r, nrm k r = nrm k (fcvt s k (nrm s x)) → ∀ K, Rest P ops w G Q rest K → K (a.put o.dst (.float k r))) : wpV P ops (fun w' => ∃ m, w' = w.drewN m) G Q (o :: rest) a := by
  refine wpV_some hgd (fun v => ∃ r, v = .float k r ∧ nrm k r = nrm k (fcvt s k (nrm s x))) (fun m => ?_) (fun v ⟨r, hv, hr⟩ => by subst hv; exact h r hr)
  obtain ⟨r, n, hrun, hr⟩ := run_fcvt (P := P) (w.drewN m) src dst s k x hs hd hf
  rw [World.drewN_drewN] at hrun
  refine ⟨.float k r, m + n, ?_, r, rfl, hr⟩
  simp [execOp, ho, hx, hrun, Result.andThen]
end
end Go.Proofs.Ytklonahkacikbaa

/- 'out = append(out, x)' of one element of one cell, on a row of the call's own. Conditions: none. -/
namespace Go.Proofs.Ytklonahkacikbaa
set_option linter.unusedSimpArgs false
set_option linter.unusedVariables false
open Go Go.RowKit

section
variable {P : Program} {ops : Array Oper} {rest : List Oper} {o : Oper} {a : Act} {Q : Exit → Act → World → Prop}
theorem wpList_push {W0 : World} {base : Nat} {e : TypeId} {v : Value} {n : Nat} {xs : List Value} (hown : W0.ownsRow base e 1 v n xs)
    (i : TypeInfo) (z : Value) (bytes : Nat) (hi : P.info? e = some i) (hz : i.zero = some z) (hsize : i.size = 1) (hby : i.bytes = bytes) (hzs : z.cells.size = 1)
    (hgd : o.guard = none) (s x : Operand) (t : TypeId) (ho : o.op = .call { callee := .builtin .append, args := #[s, x], argTypes := #[t, t] })
    (ht : P.underlying t = some (.slice e)) (W : World) (y : Value) (hs : a.eval s = v) (hx : a.eval x = .slice (some ⟨W.heap.size, 0, none⟩) 1 1)
    (hW : W.heap = W0.heap) (h1 : y.oneCell' = true) (hn : n + 1 ≤ maxLen) (hb : (n + 1) * bytes ≤ 140737488355328) (hbase : base ≤ W0.heap.size)
    (h : ∀ g cap w', w'.ownsRow base e 1 (.slice (some ⟨g, 0, none⟩) (n + 1) cap) (n + 1) (xs ++ [y]) → (v.ownBlock = some g ∨ g = W0.heap.size + 1) → g < w'.heap.size → W.grownBy w' v.ownBlock → wpList P ops Q rest (a.put o.dst (.slice (some ⟨g, 0, none⟩) (n + 1) cap)) w') : wpList P ops Q (o :: rest) a (W.alloc (.cells #[y] e)) := by
  have hown1 : (W.alloc (.cells #[y] e)).ownsRow base e 1 v n xs := by
    have h2 : W.ownsRow base e 1 v n xs := by
      unfold World.ownsRow at hown ⊢
      rw [hW]; exact hown
    exact h2.alloc _
  refine wpList_append_lies _ hgd s x t ho base e i z 1 bytes ht hi hz hsize hby hzs (by decide) v n xs hs hown1 ⟨W.heap.size, 0, none⟩ 1 1 [y] hx (by simp) ?_ ?_ (by decide) hn hb (by simp; rw [hW]; omega) (W.heap.size + 1) (by simp) ?_
  · intro j u hj
    cases j with
    | zero => simp only [List.getElem?_cons_zero, Option.some.injEq] at hj; subst hj; exact (World.cell?_alloc_new W _ e 0 : _)
    | succ j => simp at hj
  · intro u hu; simp only [List.mem_singleton] at hu; subst hu; exact h1
  · intro g cap w1 hown' hgrow hat hlt
    refine h g cap w1 hown' (by rw [← hW]; exact hat) hlt ?_
    exact ⟨hgrow.os, hgrow.tape, hgrow.output, Nat.le_trans (by simp) hgrow.size, fun k hk hne => by rw [hgrow.block k (by simp; omega) hne]; exact heap_alloc_old W _ hk⟩
end
end Go.Proofs.Ytklonahkacikbaa
