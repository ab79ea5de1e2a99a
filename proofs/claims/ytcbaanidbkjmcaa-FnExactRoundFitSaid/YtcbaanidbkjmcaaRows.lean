/-
  No cell of these rows narrows 'for every input' (looked for: loops, veiled, ifaces, maps, wideKeys, modest, calm, conditions, laid).
  DERIVED. THE GIVEN ROWS OF THIS SEAT. 8 by the template 'for every input the law returns true; each argument reads behind the call as it read before'; 0 by the template 'total and deterministic' (their statements: YtcbaanidbkjmcaaTotals.lean).
  GIVEN WITH THE SEED: the statements are not yours to turn. If you find one false, say at which input.
  Laid BY PROGRAM, IN A SANDBOX (cutbox-rows.mjs): the forced cells as the released guide's own fill.sh prints them over the translation db674240be0ae1a1… (all of the seat's roots in one cut). By AI agents, Wed Nov 11 2026. No macro, syntax, notation, axiom, sorry.
-/
import Derived.Test.YtcbaanidbkjmcaaChecked
import GoSem.Claim
import GoSem.ClaimJoined
import GoSem.ClaimMapViews
import Derived.JoinedTies
import Derived.KernelRfl
namespace Go.Proofs.Ytcbaanidbkjmcaa
/- THE CELL 'sum', in the pinned program and in every row, IS THE sha256 OF THE DUMP (.gsa) THAT YtcbaanidbkjmcaaProg.lean LOADS. Nothing in Lean hashes anything: it is a label: what it is worth is what the hold of that sum in a sandbox is worth. -/
noncomputable def Try.pinned : Pinned := { name := "ytcbaanidbkjmcaa", sum := "db674240be0ae1a19f1252cb3ce45ced39401a9f50cb87e415f737524beb6626", checked := Try.checked }
namespace Rows
def none {H : Type} : Left H := { results := [], args := [] }

/-- 'laws.FnExactRuleOf': WHATEVER THE INPUT: true; the input reads as it did. -/
def fnExactRuleOfSpec : ChangeSpec := { name := "fnExactRuleOf", fn := fun _ => fun
  | [d1, d2] => { results := [.lit (.bool true)], args := [d1, d2] }
  | _ => none }
def fnExactRuleOfRow : OpenClaim := { program := "ytcbaanidbkjmcaa", sum := "db674240be0ae1a19f1252cb3ce45ced39401a9f50cb87e415f737524beb6626", func := "loop.example/g01358/laws.FnExactRuleOf", spec := "fnExactRuleOf", apart := false }
def FnExactRuleOfSaid : Prop := fnExactRuleOfRow.holds Try.pinned (OpenSpec.ofChange fnExactRuleOfSpec)

/-- ITS FALSE NEIGHBOUR: 'it returns false'. Refute it at one input. -/
def fnExactRuleOfWrong : ChangeSpec := { name := "fnExactRuleOf", fn := fun _ => fun
  | [d1, d2] => { results := [.lit (.bool false)], args := [d1, d2] }
  | _ => none }
def FnExactRuleOfWrongFalsely : Prop := fnExactRuleOfRow.holds Try.pinned (OpenSpec.ofChange fnExactRuleOfWrong)

/-- 'laws.FnExactFamilyAt': WHATEVER THE INPUT: true; the input reads as it did. -/
def fnExactFamilyAtSpec : ChangeSpec := { name := "fnExactFamilyAt", fn := fun _ => fun
  | [d1, d2, d3] => { results := [.lit (.bool true)], args := [d1, d2, d3] }
  | _ => none }
def fnExactFamilyAtRow : OpenClaim := { program := "ytcbaanidbkjmcaa", sum := "db674240be0ae1a19f1252cb3ce45ced39401a9f50cb87e415f737524beb6626", func := "loop.example/g01358/laws.FnExactFamilyAt", spec := "fnExactFamilyAt", apart := false }
def FnExactFamilyAtSaid : Prop := fnExactFamilyAtRow.holds Try.pinned (OpenSpec.ofChange fnExactFamilyAtSpec)

/-- ITS FALSE NEIGHBOUR: 'it returns false'. Refute it at one input. -/
def fnExactFamilyAtWrong : ChangeSpec := { name := "fnExactFamilyAt", fn := fun _ => fun
  | [d1, d2, d3] => { results := [.lit (.bool false)], args := [d1, d2, d3] }
  | _ => none }
def FnExactFamilyAtWrongFalsely : Prop := fnExactFamilyAtRow.holds Try.pinned (OpenSpec.ofChange fnExactFamilyAtWrong)

/-- 'laws.FnExactFamilySum': WHATEVER THE INPUT: true; the input reads as it did. -/
def fnExactFamilySumSpec : ChangeSpec := { name := "fnExactFamilySum", fn := fun _ => fun
  | [d1, d2, d3] => { results := [.lit (.bool true)], args := [d1, d2, d3] }
  | _ => none }
def fnExactFamilySumRow : OpenClaim := { program := "ytcbaanidbkjmcaa", sum := "db674240be0ae1a19f1252cb3ce45ced39401a9f50cb87e415f737524beb6626", func := "loop.example/g01358/laws.FnExactFamilySum", spec := "fnExactFamilySum", unfollowed := true, recurses := true, apart := false }
def FnExactFamilySumSaid : Prop := fnExactFamilySumRow.holds Try.pinned (OpenSpec.ofChange fnExactFamilySumSpec)

/-- ITS FALSE NEIGHBOUR: 'it returns false'. Refute it at one input. -/
def fnExactFamilySumWrong : ChangeSpec := { name := "fnExactFamilySum", fn := fun _ => fun
  | [d1, d2, d3] => { results := [.lit (.bool false)], args := [d1, d2, d3] }
  | _ => none }
def FnExactFamilySumWrongFalsely : Prop := fnExactFamilySumRow.holds Try.pinned (OpenSpec.ofChange fnExactFamilySumWrong)

/-- 'laws.FnExactFamilyRow': WHATEVER THE INPUT: true; the input reads as it did. -/
def fnExactFamilyRowSpec : ChangeSpec := { name := "fnExactFamilyRow", fn := fun _ => fun
  | [d1, d2, d3] => { results := [.lit (.bool true)], args := [d1, d2, d3] }
  | _ => none }
def fnExactFamilyRowRow : OpenClaim := { program := "ytcbaanidbkjmcaa", sum := "db674240be0ae1a19f1252cb3ce45ced39401a9f50cb87e415f737524beb6626", func := "loop.example/g01358/laws.FnExactFamilyRow", spec := "fnExactFamilyRow", unfollowed := true, recurses := true, apart := false }
def FnExactFamilyRowSaid : Prop := fnExactFamilyRowRow.holds Try.pinned (OpenSpec.ofChange fnExactFamilyRowSpec)

/-- ITS FALSE NEIGHBOUR: 'it returns false'. Refute it at one input. -/
def fnExactFamilyRowWrong : ChangeSpec := { name := "fnExactFamilyRow", fn := fun _ => fun
  | [d1, d2, d3] => { results := [.lit (.bool false)], args := [d1, d2, d3] }
  | _ => none }
def FnExactFamilyRowWrongFalsely : Prop := fnExactFamilyRowRow.holds Try.pinned (OpenSpec.ofChange fnExactFamilyRowWrong)

/-- 'laws.FnExactRoundPoints': WHATEVER THE INPUT: true; the input reads as it did. -/
def fnExactRoundPointsSpec : ChangeSpec := { name := "fnExactRoundPoints", fn := fun _ => fun
  | [d] => { results := [.lit (.bool true)], args := [d] }
  | _ => none }
def fnExactRoundPointsRow : OpenClaim := { program := "ytcbaanidbkjmcaa", sum := "db674240be0ae1a19f1252cb3ce45ced39401a9f50cb87e415f737524beb6626", func := "loop.example/g01358/laws.FnExactRoundPoints", spec := "fnExactRoundPoints", inPlace := ["math.Float64frombits", "math.Float64bits", "math.archTrunc"], apart := false }
def FnExactRoundPointsSaid : Prop := fnExactRoundPointsRow.holds Try.pinned (OpenSpec.ofChange fnExactRoundPointsSpec)

/-- ITS FALSE NEIGHBOUR: 'it returns false'. Refute it at one input. -/
def fnExactRoundPointsWrong : ChangeSpec := { name := "fnExactRoundPoints", fn := fun _ => fun
  | [d] => { results := [.lit (.bool false)], args := [d] }
  | _ => none }
def FnExactRoundPointsWrongFalsely : Prop := fnExactRoundPointsRow.holds Try.pinned (OpenSpec.ofChange fnExactRoundPointsWrong)

/-- 'laws.FnExactValuesShared': WHATEVER THE INPUT: true; the input reads as it did. -/
def fnExactValuesSharedSpec : ChangeSpec := { name := "fnExactValuesShared", fn := fun _ => fun
  | [d1, d2, d3, d4] => { results := [.lit (.bool true)], args := [d1, d2, d3, d4] }
  | _ => none }
def fnExactValuesSharedRow : OpenClaim := { program := "ytcbaanidbkjmcaa", sum := "db674240be0ae1a19f1252cb3ce45ced39401a9f50cb87e415f737524beb6626", func := "loop.example/g01358/laws.FnExactValuesShared", spec := "fnExactValuesShared", apart := false }
def FnExactValuesSharedSaid : Prop := fnExactValuesSharedRow.holds Try.pinned (OpenSpec.ofChange fnExactValuesSharedSpec)

/-- ITS FALSE NEIGHBOUR: 'it returns false'. Refute it at one input. -/
def fnExactValuesSharedWrong : ChangeSpec := { name := "fnExactValuesShared", fn := fun _ => fun
  | [d1, d2, d3, d4] => { results := [.lit (.bool false)], args := [d1, d2, d3, d4] }
  | _ => none }
def FnExactValuesSharedWrongFalsely : Prop := fnExactValuesSharedRow.holds Try.pinned (OpenSpec.ofChange fnExactValuesSharedWrong)

/-- 'laws.FnExactRoundFit': WHATEVER THE INPUT: true; the input reads as it did. -/
def fnExactRoundFitSpec : ChangeSpec := { name := "fnExactRoundFit", fn := fun _ => fun
  | [d] => { results := [.lit (.bool true)], args := [d] }
  | _ => none }
def fnExactRoundFitRow : OpenClaim := { program := "ytcbaanidbkjmcaa", sum := "db674240be0ae1a19f1252cb3ce45ced39401a9f50cb87e415f737524beb6626", func := "loop.example/g01358/laws.FnExactRoundFit", spec := "fnExactRoundFit", inPlace := ["math.Float64frombits", "math.Float64bits", "math.archTrunc"], unfollowed := true, recurses := true, apart := false }
def FnExactRoundFitSaid : Prop := fnExactRoundFitRow.holds Try.pinned (OpenSpec.ofChange fnExactRoundFitSpec)

/-- ITS FALSE NEIGHBOUR: 'it returns false'. Refute it at one input. -/
def fnExactRoundFitWrong : ChangeSpec := { name := "fnExactRoundFit", fn := fun _ => fun
  | [d] => { results := [.lit (.bool false)], args := [d] }
  | _ => none }
def FnExactRoundFitWrongFalsely : Prop := fnExactRoundFitRow.holds Try.pinned (OpenSpec.ofChange fnExactRoundFitWrong)

/-- 'laws.FnExactFamilyPoly': WHATEVER THE INPUT: true; the input reads as it did. -/
def fnExactFamilyPolySpec : ChangeSpec := { name := "fnExactFamilyPoly", fn := fun _ => fun
  | [d1, d2] => { results := [.lit (.bool true)], args := [d1, d2] }
  | _ => none }
def fnExactFamilyPolyRow : OpenClaim := { program := "ytcbaanidbkjmcaa", sum := "db674240be0ae1a19f1252cb3ce45ced39401a9f50cb87e415f737524beb6626", func := "loop.example/g01358/laws.FnExactFamilyPoly", spec := "fnExactFamilyPoly", unfollowed := true, recurses := true, apart := false }
def FnExactFamilyPolySaid : Prop := fnExactFamilyPolyRow.holds Try.pinned (OpenSpec.ofChange fnExactFamilyPolySpec)

/-- ITS FALSE NEIGHBOUR: 'it returns false'. Refute it at one input. -/
def fnExactFamilyPolyWrong : ChangeSpec := { name := "fnExactFamilyPoly", fn := fun _ => fun
  | [d1, d2] => { results := [.lit (.bool false)], args := [d1, d2] }
  | _ => none }
def FnExactFamilyPolyWrongFalsely : Prop := fnExactFamilyPolyRow.holds Try.pinned (OpenSpec.ofChange fnExactFamilyPolyWrong)

/- THE SECOND FORM. 'bulk': how many values and letters a reading holds, each counted each time it is reached (what is shared counts as often as it is met; a slice's spare places count too). A statement '..UptoSaid' is the law's where the arguments, and the package variables that the reading takes, are together of bulk at most 1048576: NARROWER than '..Said'. Prove '..Said' where nothing that the law and all that it calls make is longer than what came in: it says more and counts as full. Else prove '..UptoSaid'. A law counts once. -/
mutual
def uptoBulk {H : Type} : DataW H → Nat
  | .lit (.string bytes) => bytes.length + 1
  | .lit _ => 1
  | .nil => 1
  | .ptr d => uptoBulk d + 1
  | .slice elems spare => uptoBulkAll elems + uptoBulkAll spare + 1
  | .agg parts => uptoBulkAll parts + 1
  | .iface _ d => uptoBulk d + 1
  | .map entries => uptoBulkEntries entries + 1
  | .held _ => 1
def uptoBulkAll {H : Type} : List (DataW H) → Nat
  | [] => 0
  | d :: r => uptoBulk d + uptoBulkAll r
def uptoBulkEntries {H : Type} : List (Lit × DataW H) → Nat
  | [] => 0
  | x :: r => uptoBulkEntry x + uptoBulkEntries r
def uptoBulkEntry {H : Type} : Lit × DataW H → Nat
  | (.string bytes, d) => bytes.length + uptoBulk d + 1
  | (_, d) => uptoBulk d + 1
 end
def uptoSmall : (H : Type) → List (DataW H) → Bool := fun _ ds => decide (uptoBulkAll ds ≤ 1048576)
def OpenSpec.upto (s : _root_.Go.ChangeSpec) : _root_.Go.OpenSpec := { _root_.Go.OpenSpec.ofChange s with cond := some uptoSmall }

/-- 'laws.FnExactRuleOf', WHERE WHAT IT READS IS OF BULK AT MOST 1048576: true; the input reads as it did. -/
def fnExactRuleOfUptoRow : OpenClaim := { program := "ytcbaanidbkjmcaa", sum := "db674240be0ae1a19f1252cb3ce45ced39401a9f50cb87e415f737524beb6626", func := "loop.example/g01358/laws.FnExactRuleOf", spec := "fnExactRuleOf", apart := false, narrowed := true }
def FnExactRuleOfUptoSaid : Prop := fnExactRuleOfUptoRow.holds Try.pinned (OpenSpec.upto fnExactRuleOfSpec)

/-- 'laws.FnExactFamilyAt', WHERE WHAT IT READS IS OF BULK AT MOST 1048576: true; the input reads as it did. -/
def fnExactFamilyAtUptoRow : OpenClaim := { program := "ytcbaanidbkjmcaa", sum := "db674240be0ae1a19f1252cb3ce45ced39401a9f50cb87e415f737524beb6626", func := "loop.example/g01358/laws.FnExactFamilyAt", spec := "fnExactFamilyAt", apart := false, narrowed := true }
def FnExactFamilyAtUptoSaid : Prop := fnExactFamilyAtUptoRow.holds Try.pinned (OpenSpec.upto fnExactFamilyAtSpec)

/-- 'laws.FnExactFamilySum', WHERE WHAT IT READS IS OF BULK AT MOST 1048576: true; the input reads as it did. -/
def fnExactFamilySumUptoRow : OpenClaim := { program := "ytcbaanidbkjmcaa", sum := "db674240be0ae1a19f1252cb3ce45ced39401a9f50cb87e415f737524beb6626", func := "loop.example/g01358/laws.FnExactFamilySum", spec := "fnExactFamilySum", unfollowed := true, recurses := true, apart := false, narrowed := true }
def FnExactFamilySumUptoSaid : Prop := fnExactFamilySumUptoRow.holds Try.pinned (OpenSpec.upto fnExactFamilySumSpec)

/-- 'laws.FnExactFamilyRow', WHERE WHAT IT READS IS OF BULK AT MOST 1048576: true; the input reads as it did. -/
def fnExactFamilyRowUptoRow : OpenClaim := { program := "ytcbaanidbkjmcaa", sum := "db674240be0ae1a19f1252cb3ce45ced39401a9f50cb87e415f737524beb6626", func := "loop.example/g01358/laws.FnExactFamilyRow", spec := "fnExactFamilyRow", unfollowed := true, recurses := true, apart := false, narrowed := true }
def FnExactFamilyRowUptoSaid : Prop := fnExactFamilyRowUptoRow.holds Try.pinned (OpenSpec.upto fnExactFamilyRowSpec)

/-- 'laws.FnExactRoundPoints', WHERE WHAT IT READS IS OF BULK AT MOST 1048576: true; the input reads as it did. -/
def fnExactRoundPointsUptoRow : OpenClaim := { program := "ytcbaanidbkjmcaa", sum := "db674240be0ae1a19f1252cb3ce45ced39401a9f50cb87e415f737524beb6626", func := "loop.example/g01358/laws.FnExactRoundPoints", spec := "fnExactRoundPoints", inPlace := ["math.Float64frombits", "math.Float64bits", "math.archTrunc"], apart := false, narrowed := true }
def FnExactRoundPointsUptoSaid : Prop := fnExactRoundPointsUptoRow.holds Try.pinned (OpenSpec.upto fnExactRoundPointsSpec)

/-- 'laws.FnExactValuesShared', WHERE WHAT IT READS IS OF BULK AT MOST 1048576: true; the input reads as it did. -/
def fnExactValuesSharedUptoRow : OpenClaim := { program := "ytcbaanidbkjmcaa", sum := "db674240be0ae1a19f1252cb3ce45ced39401a9f50cb87e415f737524beb6626", func := "loop.example/g01358/laws.FnExactValuesShared", spec := "fnExactValuesShared", apart := false, narrowed := true }
def FnExactValuesSharedUptoSaid : Prop := fnExactValuesSharedUptoRow.holds Try.pinned (OpenSpec.upto fnExactValuesSharedSpec)

/-- 'laws.FnExactRoundFit', WHERE WHAT IT READS IS OF BULK AT MOST 1048576: true; the input reads as it did. -/
def fnExactRoundFitUptoRow : OpenClaim := { program := "ytcbaanidbkjmcaa", sum := "db674240be0ae1a19f1252cb3ce45ced39401a9f50cb87e415f737524beb6626", func := "loop.example/g01358/laws.FnExactRoundFit", spec := "fnExactRoundFit", inPlace := ["math.Float64frombits", "math.Float64bits", "math.archTrunc"], unfollowed := true, recurses := true, apart := false, narrowed := true }
def FnExactRoundFitUptoSaid : Prop := fnExactRoundFitUptoRow.holds Try.pinned (OpenSpec.upto fnExactRoundFitSpec)

/-- 'laws.FnExactFamilyPoly', WHERE WHAT IT READS IS OF BULK AT MOST 1048576: true; the input reads as it did. -/
def fnExactFamilyPolyUptoRow : OpenClaim := { program := "ytcbaanidbkjmcaa", sum := "db674240be0ae1a19f1252cb3ce45ced39401a9f50cb87e415f737524beb6626", func := "loop.example/g01358/laws.FnExactFamilyPoly", spec := "fnExactFamilyPoly", unfollowed := true, recurses := true, apart := false, narrowed := true }
def FnExactFamilyPolyUptoSaid : Prop := fnExactFamilyPolyUptoRow.holds Try.pinned (OpenSpec.upto fnExactFamilyPolySpec)

end Rows
end Go.Proofs.Ytcbaanidbkjmcaa
