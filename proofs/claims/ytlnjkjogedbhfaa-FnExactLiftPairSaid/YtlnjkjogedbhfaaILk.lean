/- LiftPair: what holds of its arguments, and the text of a function from a statement on. Conditions: none. -/
import Derived.Test.YtlnjkjogedbhfaaIBez
import Derived.Test.YtlnjkjogedbhfaaI13
namespace Go.Proofs.Ytlnjkjogedbhfaa
open Go Go.RowKit
set_option linter.unusedSimpArgs false
set_option linter.unusedVariables false

/-- What holds of the arguments once they are told to be good. -/
structure LiftK (w : World) (m : Int) (p g h : List Int) (pp : Option Addr) (qp : Nat) (pg : Option Addr) (qg : Nat) (ph : Option Addr) (qh : Nat) : Prop where
  rp : RdI w (.slice pp p.length qp) p
  rg : RdI w (.slice pg g.length qg) g
  rh : RdI w (.slice ph h.length qh) h
  c : LiftC m p g h
  ho : liftR m p g h = (liftZ m g (upU m p g h), liftZ m h (upV m p g h), true)
  vp : validB p = true
  lg : g.length ≤ 17
  lh : h.length ≤ 17
/-- The text of the function, from its n-th statement on. -/
def dropC : Nat → Code → Code
  | 0, c => c
  | n + 1, .seq _ b => dropC n b
  | _ + 1, c => c
/-- The first statement. -/
def headC : Code → Code
  | .seq a _ => a
  | c => c
end Go.Proofs.Ytlnjkjogedbhfaa
