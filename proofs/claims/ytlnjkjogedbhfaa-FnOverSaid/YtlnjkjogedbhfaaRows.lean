/-
  No cell of these rows narrows 'for every input' (looked for: loops, veiled, ifaces, maps, wideKeys, modest, calm, conditions, laid).
  DERIVED. THE GIVEN ROWS OF THIS SEAT. 10 by the template 'for every input the law returns true; each argument reads behind the call as it read before'; 0 by the template 'total and deterministic' (their statements: YtlnjkjogedbhfaaTotals.lean).
  GIVEN WITH THE SEED: the statements are not yours to turn. If you find one false, say at which input.
  Laid BY PROGRAM, IN A SANDBOX (cutbox-rows.mjs): the forced cells as the released guide's own fill.sh prints them over the translation 80244032b8602d4e… (all of the seat's roots in one cut). By AI agents, Wed Nov 11 2026. No macro, syntax, notation, axiom, sorry.
-/
import Derived.Test.YtlnjkjogedbhfaaChecked
import GoSem.Claim
import GoSem.ClaimJoined
import GoSem.ClaimMapViews
import Derived.JoinedTies
import Derived.KernelRfl
namespace Go.Proofs.Ytlnjkjogedbhfaa
/- THE CELL 'sum', in the pinned program and in every row, IS THE sha256 OF THE DUMP (.gsa) THAT YtlnjkjogedbhfaaProg.lean LOADS. Nothing in Lean hashes anything: it is a label: what it is worth is what the hold of that sum in a sandbox is worth. -/
noncomputable def Try.pinned : Pinned := { name := "ytlnjkjogedbhfaa", sum := "80244032b8602d4eb9060fec0b40f0970d2e22a6d582ed06743d67f3e42eb200", checked := Try.checked }
namespace Rows
def none {H : Type} : Left H := { results := [], args := [] }

/-- 'laws.FnLifted': WHATEVER THE INPUT: true; the input reads as it did. -/
def fnLiftedSpec : ChangeSpec := { name := "fnLifted", fn := fun _ => fun
  | [d1, d2] => { results := [.lit (.bool true)], args := [d1, d2] }
  | _ => none }
def fnLiftedRow : OpenClaim := { program := "ytlnjkjogedbhfaa", sum := "80244032b8602d4eb9060fec0b40f0970d2e22a6d582ed06743d67f3e42eb200", func := "loop.example/g01358/laws.FnLifted", spec := "fnLifted", unfollowed := true, recurses := true, apart := false }
def FnLiftedSaid : Prop := fnLiftedRow.holds Try.pinned (OpenSpec.ofChange fnLiftedSpec)

/-- ITS FALSE NEIGHBOUR: 'it returns false'. Refute it at one input. -/
def fnLiftedWrong : ChangeSpec := { name := "fnLifted", fn := fun _ => fun
  | [d1, d2] => { results := [.lit (.bool false)], args := [d1, d2] }
  | _ => none }
def FnLiftedWrongFalsely : Prop := fnLiftedRow.holds Try.pinned (OpenSpec.ofChange fnLiftedWrong)

/-- 'laws.FnWholes': WHATEVER THE INPUT: true; the input reads as it did. -/
def fnWholesSpec : ChangeSpec := { name := "fnWholes", fn := fun _ => fun
  | [d1, d2] => { results := [.lit (.bool true)], args := [d1, d2] }
  | _ => none }
def fnWholesRow : OpenClaim := { program := "ytlnjkjogedbhfaa", sum := "80244032b8602d4eb9060fec0b40f0970d2e22a6d582ed06743d67f3e42eb200", func := "loop.example/g01358/laws.FnWholes", spec := "fnWholes", unfollowed := true, recurses := true, apart := false }
def FnWholesSaid : Prop := fnWholesRow.holds Try.pinned (OpenSpec.ofChange fnWholesSpec)

/-- ITS FALSE NEIGHBOUR: 'it returns false'. Refute it at one input. -/
def fnWholesWrong : ChangeSpec := { name := "fnWholes", fn := fun _ => fun
  | [d1, d2] => { results := [.lit (.bool false)], args := [d1, d2] }
  | _ => none }
def FnWholesWrongFalsely : Prop := fnWholesRow.holds Try.pinned (OpenSpec.ofChange fnWholesWrong)

/-- 'laws.FnExactCommonOver': WHATEVER THE INPUT: true; the input reads as it did. -/
def fnExactCommonOverSpec : ChangeSpec := { name := "fnExactCommonOver", fn := fun _ => fun
  | [d1, d2, d3] => { results := [.lit (.bool true)], args := [d1, d2, d3] }
  | _ => none }
def fnExactCommonOverRow : OpenClaim := { program := "ytlnjkjogedbhfaa", sum := "80244032b8602d4eb9060fec0b40f0970d2e22a6d582ed06743d67f3e42eb200", func := "loop.example/g01358/laws.FnExactCommonOver", spec := "fnExactCommonOver", unfollowed := true, recurses := true, apart := false }
def FnExactCommonOverSaid : Prop := fnExactCommonOverRow.holds Try.pinned (OpenSpec.ofChange fnExactCommonOverSpec)

/-- ITS FALSE NEIGHBOUR: 'it returns false'. Refute it at one input. -/
def fnExactCommonOverWrong : ChangeSpec := { name := "fnExactCommonOver", fn := fun _ => fun
  | [d1, d2, d3] => { results := [.lit (.bool false)], args := [d1, d2, d3] }
  | _ => none }
def FnExactCommonOverWrongFalsely : Prop := fnExactCommonOverRow.holds Try.pinned (OpenSpec.ofChange fnExactCommonOverWrong)

/-- 'laws.FnExactPowerOver': WHATEVER THE INPUT: true; the input reads as it did. -/
def fnExactPowerOverSpec : ChangeSpec := { name := "fnExactPowerOver", fn := fun _ => fun
  | [d1, d2, d3, d4] => { results := [.lit (.bool true)], args := [d1, d2, d3, d4] }
  | _ => none }
def fnExactPowerOverRow : OpenClaim := { program := "ytlnjkjogedbhfaa", sum := "80244032b8602d4eb9060fec0b40f0970d2e22a6d582ed06743d67f3e42eb200", func := "loop.example/g01358/laws.FnExactPowerOver", spec := "fnExactPowerOver", unfollowed := true, recurses := true, apart := false }
def FnExactPowerOverSaid : Prop := fnExactPowerOverRow.holds Try.pinned (OpenSpec.ofChange fnExactPowerOverSpec)

/-- ITS FALSE NEIGHBOUR: 'it returns false'. Refute it at one input. -/
def fnExactPowerOverWrong : ChangeSpec := { name := "fnExactPowerOver", fn := fun _ => fun
  | [d1, d2, d3, d4] => { results := [.lit (.bool false)], args := [d1, d2, d3, d4] }
  | _ => none }
def FnExactPowerOverWrongFalsely : Prop := fnExactPowerOverRow.holds Try.pinned (OpenSpec.ofChange fnExactPowerOverWrong)

/-- 'laws.FnExactCommonWhole': WHATEVER THE INPUT: true; the input reads as it did. -/
def fnExactCommonWholeSpec : ChangeSpec := { name := "fnExactCommonWhole", fn := fun _ => fun
  | [d1, d2] => { results := [.lit (.bool true)], args := [d1, d2] }
  | _ => none }
def fnExactCommonWholeRow : OpenClaim := { program := "ytlnjkjogedbhfaa", sum := "80244032b8602d4eb9060fec0b40f0970d2e22a6d582ed06743d67f3e42eb200", func := "loop.example/g01358/laws.FnExactCommonWhole", spec := "fnExactCommonWhole", unfollowed := true, recurses := true, apart := false }
def FnExactCommonWholeSaid : Prop := fnExactCommonWholeRow.holds Try.pinned (OpenSpec.ofChange fnExactCommonWholeSpec)

/-- ITS FALSE NEIGHBOUR: 'it returns false'. Refute it at one input. -/
def fnExactCommonWholeWrong : ChangeSpec := { name := "fnExactCommonWhole", fn := fun _ => fun
  | [d1, d2] => { results := [.lit (.bool false)], args := [d1, d2] }
  | _ => none }
def FnExactCommonWholeWrongFalsely : Prop := fnExactCommonWholeRow.holds Try.pinned (OpenSpec.ofChange fnExactCommonWholeWrong)

/-- 'laws.FnExactLiftPair': WHATEVER THE INPUT: true; the input reads as it did. -/
def fnExactLiftPairSpec : ChangeSpec := { name := "fnExactLiftPair", fn := fun _ => fun
  | [d1, d2, d3, d4] => { results := [.lit (.bool true)], args := [d1, d2, d3, d4] }
  | _ => none }
def fnExactLiftPairRow : OpenClaim := { program := "ytlnjkjogedbhfaa", sum := "80244032b8602d4eb9060fec0b40f0970d2e22a6d582ed06743d67f3e42eb200", func := "loop.example/g01358/laws.FnExactLiftPair", spec := "fnExactLiftPair", unfollowed := true, recurses := true, apart := false }
def FnExactLiftPairSaid : Prop := fnExactLiftPairRow.holds Try.pinned (OpenSpec.ofChange fnExactLiftPairSpec)

/-- ITS FALSE NEIGHBOUR: 'it returns false'. Refute it at one input. -/
def fnExactLiftPairWrong : ChangeSpec := { name := "fnExactLiftPair", fn := fun _ => fun
  | [d1, d2, d3, d4] => { results := [.lit (.bool false)], args := [d1, d2, d3, d4] }
  | _ => none }
def FnExactLiftPairWrongFalsely : Prop := fnExactLiftPairRow.holds Try.pinned (OpenSpec.ofChange fnExactLiftPairWrong)

/-- 'laws.FnExactSquareFree': WHATEVER THE INPUT: true; the input reads as it did. -/
def fnExactSquareFreeSpec : ChangeSpec := { name := "fnExactSquareFree", fn := fun _ => fun
  | [d] => { results := [.lit (.bool true)], args := [d] }
  | _ => none }
def fnExactSquareFreeRow : OpenClaim := { program := "ytlnjkjogedbhfaa", sum := "80244032b8602d4eb9060fec0b40f0970d2e22a6d582ed06743d67f3e42eb200", func := "loop.example/g01358/laws.FnExactSquareFree", spec := "fnExactSquareFree", unfollowed := true, recurses := true, apart := false }
def FnExactSquareFreeSaid : Prop := fnExactSquareFreeRow.holds Try.pinned (OpenSpec.ofChange fnExactSquareFreeSpec)

/-- ITS FALSE NEIGHBOUR: 'it returns false'. Refute it at one input. -/
def fnExactSquareFreeWrong : ChangeSpec := { name := "fnExactSquareFree", fn := fun _ => fun
  | [d] => { results := [.lit (.bool false)], args := [d] }
  | _ => none }
def FnExactSquareFreeWrongFalsely : Prop := fnExactSquareFreeRow.holds Try.pinned (OpenSpec.ofChange fnExactSquareFreeWrong)

/-- 'laws.FnExactFactorsOver': WHATEVER THE INPUT: true; the input reads as it did. -/
def fnExactFactorsOverSpec : ChangeSpec := { name := "fnExactFactorsOver", fn := fun _ => fun
  | [d1, d2] => { results := [.lit (.bool true)], args := [d1, d2] }
  | _ => none }
def fnExactFactorsOverRow : OpenClaim := { program := "ytlnjkjogedbhfaa", sum := "80244032b8602d4eb9060fec0b40f0970d2e22a6d582ed06743d67f3e42eb200", func := "loop.example/g01358/laws.FnExactFactorsOver", spec := "fnExactFactorsOver", unfollowed := true, recurses := true, apart := false }
def FnExactFactorsOverSaid : Prop := fnExactFactorsOverRow.holds Try.pinned (OpenSpec.ofChange fnExactFactorsOverSpec)

/-- ITS FALSE NEIGHBOUR: 'it returns false'. Refute it at one input. -/
def fnExactFactorsOverWrong : ChangeSpec := { name := "fnExactFactorsOver", fn := fun _ => fun
  | [d1, d2] => { results := [.lit (.bool false)], args := [d1, d2] }
  | _ => none }
def FnExactFactorsOverWrongFalsely : Prop := fnExactFactorsOverRow.holds Try.pinned (OpenSpec.ofChange fnExactFactorsOverWrong)

/-- 'laws.FnExactFactorsShared': WHATEVER THE INPUT: true; the input reads as it did. -/
def fnExactFactorsSharedSpec : ChangeSpec := { name := "fnExactFactorsShared", fn := fun _ => fun
  | [d1, d2, d3] => { results := [.lit (.bool true)], args := [d1, d2, d3] }
  | _ => none }
def fnExactFactorsSharedRow : OpenClaim := { program := "ytlnjkjogedbhfaa", sum := "80244032b8602d4eb9060fec0b40f0970d2e22a6d582ed06743d67f3e42eb200", func := "loop.example/g01358/laws.FnExactFactorsShared", spec := "fnExactFactorsShared", unfollowed := true, recurses := true, apart := false }
def FnExactFactorsSharedSaid : Prop := fnExactFactorsSharedRow.holds Try.pinned (OpenSpec.ofChange fnExactFactorsSharedSpec)

/-- ITS FALSE NEIGHBOUR: 'it returns false'. Refute it at one input. -/
def fnExactFactorsSharedWrong : ChangeSpec := { name := "fnExactFactorsShared", fn := fun _ => fun
  | [d1, d2, d3] => { results := [.lit (.bool false)], args := [d1, d2, d3] }
  | _ => none }
def FnExactFactorsSharedWrongFalsely : Prop := fnExactFactorsSharedRow.holds Try.pinned (OpenSpec.ofChange fnExactFactorsSharedWrong)

/-- 'laws.FnOver': WHATEVER THE INPUT: true; the input reads as it did. -/
def fnOverSpec : ChangeSpec := { name := "fnOver", fn := fun _ => fun
  | [d1, d2] => { results := [.lit (.bool true)], args := [d1, d2] }
  | _ => none }
def fnOverRow : OpenClaim := { program := "ytlnjkjogedbhfaa", sum := "80244032b8602d4eb9060fec0b40f0970d2e22a6d582ed06743d67f3e42eb200", func := "loop.example/g01358/laws.FnOver", spec := "fnOver", unfollowed := true, recurses := true, apart := false }
def FnOverSaid : Prop := fnOverRow.holds Try.pinned (OpenSpec.ofChange fnOverSpec)

/-- ITS FALSE NEIGHBOUR: 'it returns false'. Refute it at one input. -/
def fnOverWrong : ChangeSpec := { name := "fnOver", fn := fun _ => fun
  | [d1, d2] => { results := [.lit (.bool false)], args := [d1, d2] }
  | _ => none }
def FnOverWrongFalsely : Prop := fnOverRow.holds Try.pinned (OpenSpec.ofChange fnOverWrong)

/- THE SECOND FORM. 'bulk': how many values and letters a reading holds, each counted each time it is reached (what is shared counts as often as it is met; a slice's spare places count too). A statement '..UptoSaid' is the law's where the arguments, and the package variables that the reading takes, are together of bulk at most 1048576: NARROWER than '..Said'. Prove '..Said' where nothing that the law and all that it calls make is longer than what came in: it says more and counts as full. Else prove '..UptoSaid'. A law counts once. -/
mutual
def uptoBulk {H : Type} : DataW H → Nat
  | .lit (.string bytes) => bytes.length + 1
  | .lit _ => 1
  | .nil => 1
  | .ptr d => uptoBulk d + 1
  | .slice elems spare => uptoBulkAll elems + uptoBulkAll spare + 1
  | .agg parts => uptoBulkAll parts + 1
  | .iface _ d => uptoBulk d + 1
  | .map entries => uptoBulkEntries entries + 1
  | .held _ => 1
def uptoBulkAll {H : Type} : List (DataW H) → Nat
  | [] => 0
  | d :: r => uptoBulk d + uptoBulkAll r
def uptoBulkEntries {H : Type} : List (Lit × DataW H) → Nat
  | [] => 0
  | x :: r => uptoBulkEntry x + uptoBulkEntries r
def uptoBulkEntry {H : Type} : Lit × DataW H → Nat
  | (.string bytes, d) => bytes.length + uptoBulk d + 1
  | (_, d) => uptoBulk d + 1
 end
def uptoSmall : (H : Type) → List (DataW H) → Bool := fun _ ds => decide (uptoBulkAll ds ≤ 1048576)
def OpenSpec.upto (s : _root_.Go.ChangeSpec) : _root_.Go.OpenSpec := { _root_.Go.OpenSpec.ofChange s with cond := some uptoSmall }

/-- 'laws.FnLifted', WHERE WHAT IT READS IS OF BULK AT MOST 1048576: true; the input reads as it did. -/
def fnLiftedUptoRow : OpenClaim := { program := "ytlnjkjogedbhfaa", sum := "80244032b8602d4eb9060fec0b40f0970d2e22a6d582ed06743d67f3e42eb200", func := "loop.example/g01358/laws.FnLifted", spec := "fnLifted", unfollowed := true, recurses := true, apart := false, narrowed := true }
def FnLiftedUptoSaid : Prop := fnLiftedUptoRow.holds Try.pinned (OpenSpec.upto fnLiftedSpec)

/-- 'laws.FnWholes', WHERE WHAT IT READS IS OF BULK AT MOST 1048576: true; the input reads as it did. -/
def fnWholesUptoRow : OpenClaim := { program := "ytlnjkjogedbhfaa", sum := "80244032b8602d4eb9060fec0b40f0970d2e22a6d582ed06743d67f3e42eb200", func := "loop.example/g01358/laws.FnWholes", spec := "fnWholes", unfollowed := true, recurses := true, apart := false, narrowed := true }
def FnWholesUptoSaid : Prop := fnWholesUptoRow.holds Try.pinned (OpenSpec.upto fnWholesSpec)

/-- 'laws.FnExactCommonOver', WHERE WHAT IT READS IS OF BULK AT MOST 1048576: true; the input reads as it did. -/
def fnExactCommonOverUptoRow : OpenClaim := { program := "ytlnjkjogedbhfaa", sum := "80244032b8602d4eb9060fec0b40f0970d2e22a6d582ed06743d67f3e42eb200", func := "loop.example/g01358/laws.FnExactCommonOver", spec := "fnExactCommonOver", unfollowed := true, recurses := true, apart := false, narrowed := true }
def FnExactCommonOverUptoSaid : Prop := fnExactCommonOverUptoRow.holds Try.pinned (OpenSpec.upto fnExactCommonOverSpec)

/-- 'laws.FnExactPowerOver', WHERE WHAT IT READS IS OF BULK AT MOST 1048576: true; the input reads as it did. -/
def fnExactPowerOverUptoRow : OpenClaim := { program := "ytlnjkjogedbhfaa", sum := "80244032b8602d4eb9060fec0b40f0970d2e22a6d582ed06743d67f3e42eb200", func := "loop.example/g01358/laws.FnExactPowerOver", spec := "fnExactPowerOver", unfollowed := true, recurses := true, apart := false, narrowed := true }
def FnExactPowerOverUptoSaid : Prop := fnExactPowerOverUptoRow.holds Try.pinned (OpenSpec.upto fnExactPowerOverSpec)

/-- 'laws.FnExactCommonWhole', WHERE WHAT IT READS IS OF BULK AT MOST 1048576: true; the input reads as it did. -/
def fnExactCommonWholeUptoRow : OpenClaim := { program := "ytlnjkjogedbhfaa", sum := "80244032b8602d4eb9060fec0b40f0970d2e22a6d582ed06743d67f3e42eb200", func := "loop.example/g01358/laws.FnExactCommonWhole", spec := "fnExactCommonWhole", unfollowed := true, recurses := true, apart := false, narrowed := true }
def FnExactCommonWholeUptoSaid : Prop := fnExactCommonWholeUptoRow.holds Try.pinned (OpenSpec.upto fnExactCommonWholeSpec)

/-- 'laws.FnExactLiftPair', WHERE WHAT IT READS IS OF BULK AT MOST 1048576: true; the input reads as it did. -/
def fnExactLiftPairUptoRow : OpenClaim := { program := "ytlnjkjogedbhfaa", sum := "80244032b8602d4eb9060fec0b40f0970d2e22a6d582ed06743d67f3e42eb200", func := "loop.example/g01358/laws.FnExactLiftPair", spec := "fnExactLiftPair", unfollowed := true, recurses := true, apart := false, narrowed := true }
def FnExactLiftPairUptoSaid : Prop := fnExactLiftPairUptoRow.holds Try.pinned (OpenSpec.upto fnExactLiftPairSpec)

/-- 'laws.FnExactSquareFree', WHERE WHAT IT READS IS OF BULK AT MOST 1048576: true; the input reads as it did. -/
def fnExactSquareFreeUptoRow : OpenClaim := { program := "ytlnjkjogedbhfaa", sum := "80244032b8602d4eb9060fec0b40f0970d2e22a6d582ed06743d67f3e42eb200", func := "loop.example/g01358/laws.FnExactSquareFree", spec := "fnExactSquareFree", unfollowed := true, recurses := true, apart := false, narrowed := true }
def FnExactSquareFreeUptoSaid : Prop := fnExactSquareFreeUptoRow.holds Try.pinned (OpenSpec.upto fnExactSquareFreeSpec)

/-- 'laws.FnExactFactorsOver', WHERE WHAT IT READS IS OF BULK AT MOST 1048576: true; the input reads as it did. -/
def fnExactFactorsOverUptoRow : OpenClaim := { program := "ytlnjkjogedbhfaa", sum := "80244032b8602d4eb9060fec0b40f0970d2e22a6d582ed06743d67f3e42eb200", func := "loop.example/g01358/laws.FnExactFactorsOver", spec := "fnExactFactorsOver", unfollowed := true, recurses := true, apart := false, narrowed := true }
def FnExactFactorsOverUptoSaid : Prop := fnExactFactorsOverUptoRow.holds Try.pinned (OpenSpec.upto fnExactFactorsOverSpec)

/-- 'laws.FnExactFactorsShared', WHERE WHAT IT READS IS OF BULK AT MOST 1048576: true; the input reads as it did. -/
def fnExactFactorsSharedUptoRow : OpenClaim := { program := "ytlnjkjogedbhfaa", sum := "80244032b8602d4eb9060fec0b40f0970d2e22a6d582ed06743d67f3e42eb200", func := "loop.example/g01358/laws.FnExactFactorsShared", spec := "fnExactFactorsShared", unfollowed := true, recurses := true, apart := false, narrowed := true }
def FnExactFactorsSharedUptoSaid : Prop := fnExactFactorsSharedUptoRow.holds Try.pinned (OpenSpec.upto fnExactFactorsSharedSpec)

/-- 'laws.FnOver', WHERE WHAT IT READS IS OF BULK AT MOST 1048576: true; the input reads as it did. -/
def fnOverUptoRow : OpenClaim := { program := "ytlnjkjogedbhfaa", sum := "80244032b8602d4eb9060fec0b40f0970d2e22a6d582ed06743d67f3e42eb200", func := "loop.example/g01358/laws.FnOver", spec := "fnOver", unfollowed := true, recurses := true, apart := false, narrowed := true }
def FnOverUptoSaid : Prop := fnOverUptoRow.holds Try.pinned (OpenSpec.upto fnOverSpec)

end Rows
end Go.Proofs.Ytlnjkjogedbhfaa
