/- The reckoning, done by the kernel: cubics whose first root has a number from 73 to 84. Conditions: none. -/
import Derived.Test.YtalfkkagbajjcaaZ11
namespace Go.Proofs.Ytalfkkagbajjcaa
set_option linter.unusedSimpArgs false
set_option linter.unusedVariables false
set_option maxRecDepth 100000
theorem k73 : cubAll 73 = true := by decide +kernel
theorem k74 : cubAll 74 = true := by decide +kernel
theorem k75 : cubAll 75 = true := by decide +kernel
theorem k76 : cubAll 76 = true := by decide +kernel
theorem k77 : cubAll 77 = true := by decide +kernel
theorem k78 : cubAll 78 = true := by decide +kernel
theorem k79 : cubAll 79 = true := by decide +kernel
theorem k80 : cubAll 80 = true := by decide +kernel
theorem k81 : cubAll 81 = true := by decide +kernel
theorem k82 : cubAll 82 = true := by decide +kernel
theorem k83 : cubAll 83 = true := by decide +kernel
theorem k84 : cubAll 84 = true := by decide +kernel
theorem kAllf (j : Nat) (h1 : 73 ≤ j) (h2 : j < 85) : cubAll j = true := by
  have h : j = 73 ∨ j = 74 ∨ j = 75 ∨ j = 76 ∨ j = 77 ∨ j = 78 ∨ j = 79 ∨ j = 80 ∨ j = 81 ∨ j = 82 ∨ j = 83 ∨ j = 84 := by omega
  rcases h with rfl | rfl | rfl | rfl | rfl | rfl | rfl | rfl | rfl | rfl | rfl | rfl
  · exact k73
  · exact k74
  · exact k75
  · exact k76
  · exact k77
  · exact k78
  · exact k79
  · exact k80
  · exact k81
  · exact k82
  · exact k83
  · exact k84
end Go.Proofs.Ytalfkkagbajjcaa
