/-
  No cell of these rows narrows 'for every input' (looked for: loops, veiled, ifaces, maps, wideKeys, modest, calm, conditions, laid).
  DERIVED. THE GIVEN ROWS OF THIS SEAT. 3 by the template 'for every input the law returns true; each argument reads behind the call as it read before'; 0 by the template 'total and deterministic' (their statements: YtfamcgibcnldlaaTotals.lean).
  GIVEN WITH THE SEED: the statements are not yours to turn. If you find one false, say at which input.
  Laid BY PROGRAM, IN A SANDBOX (cutbox-rows.mjs): the forced cells as the released guide's own fill.sh prints them over the translation 0090139a83088a67… (all of the seat's roots in one cut). By AI agents, Wed Nov 11 2026. No macro, syntax, notation, axiom, sorry.
-/
import Derived.Test.YtfamcgibcnldlaaChecked
import GoSem.Claim
import GoSem.ClaimJoined
import GoSem.ClaimMapViews
import Derived.JoinedTies
import Derived.KernelRfl
namespace Go.Proofs.Ytfamcgibcnldlaa
/- THE CELL 'sum', in the pinned program and in every row, IS THE sha256 OF THE DUMP (.gsa) THAT YtfamcgibcnldlaaProg.lean LOADS. Nothing in Lean hashes anything: it is a label: what it is worth is what the hold of that sum in a sandbox is worth. -/
noncomputable def Try.pinned : Pinned := { name := "ytfamcgibcnldlaa", sum := "0090139a83088a670699ec59bb174b5c280f36b9622db294d83e97dd0323e651", checked := Try.checked }
namespace Rows
def none {H : Type} : Left H := { results := [], args := [] }

/-- 'laws.FnExactRuleOf': WHATEVER THE INPUT: true; the input reads as it did. -/
def fnExactRuleOfSpec : ChangeSpec := { name := "fnExactRuleOf", fn := fun _ => fun
  | [d1, d2] => { results := [.lit (.bool true)], args := [d1, d2] }
  | _ => none }
def fnExactRuleOfRow : OpenClaim := { program := "ytfamcgibcnldlaa", sum := "0090139a83088a670699ec59bb174b5c280f36b9622db294d83e97dd0323e651", func := "loop.example/g01358/laws.FnExactRuleOf", spec := "fnExactRuleOf", apart := false }
def FnExactRuleOfSaid : Prop := fnExactRuleOfRow.holds Try.pinned (OpenSpec.ofChange fnExactRuleOfSpec)

/-- ITS FALSE NEIGHBOUR: 'it returns false'. Refute it at one input. -/
def fnExactRuleOfWrong : ChangeSpec := { name := "fnExactRuleOf", fn := fun _ => fun
  | [d1, d2] => { results := [.lit (.bool false)], args := [d1, d2] }
  | _ => none }
def FnExactRuleOfWrongFalsely : Prop := fnExactRuleOfRow.holds Try.pinned (OpenSpec.ofChange fnExactRuleOfWrong)

/-- 'laws.FnExactFamilyRow': WHATEVER THE INPUT: true; the input reads as it did. -/
def fnExactFamilyRowSpec : ChangeSpec := { name := "fnExactFamilyRow", fn := fun _ => fun
  | [d1, d2, d3] => { results := [.lit (.bool true)], args := [d1, d2, d3] }
  | _ => none }
def fnExactFamilyRowRow : OpenClaim := { program := "ytfamcgibcnldlaa", sum := "0090139a83088a670699ec59bb174b5c280f36b9622db294d83e97dd0323e651", func := "loop.example/g01358/laws.FnExactFamilyRow", spec := "fnExactFamilyRow", unfollowed := true, recurses := true, apart := false }
def FnExactFamilyRowSaid : Prop := fnExactFamilyRowRow.holds Try.pinned (OpenSpec.ofChange fnExactFamilyRowSpec)

/-- ITS FALSE NEIGHBOUR: 'it returns false'. Refute it at one input. -/
def fnExactFamilyRowWrong : ChangeSpec := { name := "fnExactFamilyRow", fn := fun _ => fun
  | [d1, d2, d3] => { results := [.lit (.bool false)], args := [d1, d2, d3] }
  | _ => none }
def FnExactFamilyRowWrongFalsely : Prop := fnExactFamilyRowRow.holds Try.pinned (OpenSpec.ofChange fnExactFamilyRowWrong)

/-- 'laws.FnExactFamilyPoly': WHATEVER THE INPUT: true; the input reads as it did. -/
def fnExactFamilyPolySpec : ChangeSpec := { name := "fnExactFamilyPoly", fn := fun _ => fun
  | [d1, d2] => { results := [.lit (.bool true)], args := [d1, d2] }
  | _ => none }
def fnExactFamilyPolyRow : OpenClaim := { program := "ytfamcgibcnldlaa", sum := "0090139a83088a670699ec59bb174b5c280f36b9622db294d83e97dd0323e651", func := "loop.example/g01358/laws.FnExactFamilyPoly", spec := "fnExactFamilyPoly", unfollowed := true, recurses := true, apart := false }
def FnExactFamilyPolySaid : Prop := fnExactFamilyPolyRow.holds Try.pinned (OpenSpec.ofChange fnExactFamilyPolySpec)

/-- ITS FALSE NEIGHBOUR: 'it returns false'. Refute it at one input. -/
def fnExactFamilyPolyWrong : ChangeSpec := { name := "fnExactFamilyPoly", fn := fun _ => fun
  | [d1, d2] => { results := [.lit (.bool false)], args := [d1, d2] }
  | _ => none }
def FnExactFamilyPolyWrongFalsely : Prop := fnExactFamilyPolyRow.holds Try.pinned (OpenSpec.ofChange fnExactFamilyPolyWrong)

/- THE SECOND FORM. 'bulk': how many values and letters a reading holds, each counted each time it is reached (what is shared counts as often as it is met; a slice's spare places count too). A statement '..UptoSaid' is the law's where the arguments, and the package variables that the reading takes, are together of bulk at most 1048576: NARROWER than '..Said'. Prove '..Said' where nothing that the law and all that it calls make is longer than what came in: it says more and counts as full. Else prove '..UptoSaid'. A law counts once. -/
mutual
def uptoBulk {H : Type} : DataW H → Nat
  | .lit (.string bytes) => bytes.length + 1
  | .lit _ => 1
  | .nil => 1
  | .ptr d => uptoBulk d + 1
  | .slice elems spare => uptoBulkAll elems + uptoBulkAll spare + 1
  | .agg parts => uptoBulkAll parts + 1
  | .iface _ d => uptoBulk d + 1
  | .map entries => uptoBulkEntries entries + 1
  | .held _ => 1
def uptoBulkAll {H : Type} : List (DataW H) → Nat
  | [] => 0
  | d :: r => uptoBulk d + uptoBulkAll r
def uptoBulkEntries {H : Type} : List (Lit × DataW H) → Nat
  | [] => 0
  | x :: r => uptoBulkEntry x + uptoBulkEntries r
def uptoBulkEntry {H : Type} : Lit × DataW H → Nat
  | (.string bytes, d) => bytes.length + uptoBulk d + 1
  | (_, d) => uptoBulk d + 1
 end
def uptoSmall : (H : Type) → List (DataW H) → Bool := fun _ ds => decide (uptoBulkAll ds ≤ 1048576)
def OpenSpec.upto (s : _root_.Go.ChangeSpec) : _root_.Go.OpenSpec := { _root_.Go.OpenSpec.ofChange s with cond := some uptoSmall }

/-- 'laws.FnExactRuleOf', WHERE WHAT IT READS IS OF BULK AT MOST 1048576: true; the input reads as it did. -/
def fnExactRuleOfUptoRow : OpenClaim := { program := "ytfamcgibcnldlaa", sum := "0090139a83088a670699ec59bb174b5c280f36b9622db294d83e97dd0323e651", func := "loop.example/g01358/laws.FnExactRuleOf", spec := "fnExactRuleOf", apart := false, narrowed := true }
def FnExactRuleOfUptoSaid : Prop := fnExactRuleOfUptoRow.holds Try.pinned (OpenSpec.upto fnExactRuleOfSpec)

/-- 'laws.FnExactFamilyRow', WHERE WHAT IT READS IS OF BULK AT MOST 1048576: true; the input reads as it did. -/
def fnExactFamilyRowUptoRow : OpenClaim := { program := "ytfamcgibcnldlaa", sum := "0090139a83088a670699ec59bb174b5c280f36b9622db294d83e97dd0323e651", func := "loop.example/g01358/laws.FnExactFamilyRow", spec := "fnExactFamilyRow", unfollowed := true, recurses := true, apart := false, narrowed := true }
def FnExactFamilyRowUptoSaid : Prop := fnExactFamilyRowUptoRow.holds Try.pinned (OpenSpec.upto fnExactFamilyRowSpec)

/-- 'laws.FnExactFamilyPoly', WHERE WHAT IT READS IS OF BULK AT MOST 1048576: true; the input reads as it did. -/
def fnExactFamilyPolyUptoRow : OpenClaim := { program := "ytfamcgibcnldlaa", sum := "0090139a83088a670699ec59bb174b5c280f36b9622db294d83e97dd0323e651", func := "loop.example/g01358/laws.FnExactFamilyPoly", spec := "fnExactFamilyPoly", unfollowed := true, recurses := true, apart := false, narrowed := true }
def FnExactFamilyPolyUptoSaid : Prop := fnExactFamilyPolyUptoRow.holds Try.pinned (OpenSpec.upto fnExactFamilyPolySpec)

end Rows
end Go.Proofs.Ytfamcgibcnldlaa
