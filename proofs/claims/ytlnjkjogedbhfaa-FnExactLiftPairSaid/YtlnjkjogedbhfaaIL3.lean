/- What the laws' regions leave. Conditions: none. -/
import Derived.Test.YtlnjkjogedbhfaaIL2
import Derived.Deep.RegionHeld3
import Derived.Deep.DeepCutAuto
namespace Go.Proofs.Ytlnjkjogedbhfaa
open Go Go.RowKit
set_option linter.unusedSimpArgs false
set_option linter.unusedVariables false

/-- A box in memory with a list of the call's own, both made behind 'B'. -/
def BoxAt (w0 wx : World) (g : Nat) (p : Option Addr) (q : Nat) (zs : List Int) : Prop :=
  w0.heap.size ≤ g ∧ g < wx.heap.size ∧ wx.cell? ⟨g, 0, none⟩ = some (.slice p zs.length q) ∧ OwR wx w0.heap.size wx.heap.size (.slice p zs.length q) zs
/-- What is left of a call with a whole and a bool. -/
def CutR (w0 : World) (F : List Int × Bool) (s8 s9 : Value) (wx : World) : Prop :=
  ∃ g p q, s8 = .pointer (some ⟨g, 0, none⟩) ∧ s9 = .bool F.2 ∧ BoxAt w0 wx g p q F.1 ∧ Below w0.heap.size w0 wx
/-- What is left of a call with two wholes and a bool. -/
def CutR2 (w0 : World) (F G : List Int) (b : Bool) (s8 s9 s10 : Value) (wx : World) : Prop :=
  ∃ g p q g2 p2 q2, s8 = .pointer (some ⟨g, 0, none⟩) ∧ s9 = .pointer (some ⟨g2, 0, none⟩) ∧ s10 = .bool b ∧ BoxAt w0 wx g p q F ∧ BoxAt w0 wx g2 p2 q2 G ∧ Below w0.heap.size w0 wx

end Go.Proofs.Ytlnjkjogedbhfaa
