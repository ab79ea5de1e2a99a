/- The reckoning, done by the kernel: cubics whose first root has a number from 60 to 72. Conditions: none. -/
import Derived.Test.YtalfkkagbajjcaaZ11
namespace Go.Proofs.Ytalfkkagbajjcaa
set_option linter.unusedSimpArgs false
set_option linter.unusedVariables false
set_option maxRecDepth 100000
theorem k60 : cubAll 60 = true := by decide +kernel
theorem k61 : cubAll 61 = true := by decide +kernel
theorem k62 : cubAll 62 = true := by decide +kernel
theorem k63 : cubAll 63 = true := by decide +kernel
theorem k64 : cubAll 64 = true := by decide +kernel
theorem k65 : cubAll 65 = true := by decide +kernel
theorem k66 : cubAll 66 = true := by decide +kernel
theorem k67 : cubAll 67 = true := by decide +kernel
theorem k68 : cubAll 68 = true := by decide +kernel
theorem k69 : cubAll 69 = true := by decide +kernel
theorem k70 : cubAll 70 = true := by decide +kernel
theorem k71 : cubAll 71 = true := by decide +kernel
theorem k72 : cubAll 72 = true := by decide +kernel
theorem kAlle (j : Nat) (h1 : 60 ≤ j) (h2 : j < 73) : cubAll j = true := by
  have h : j = 60 ∨ j = 61 ∨ j = 62 ∨ j = 63 ∨ j = 64 ∨ j = 65 ∨ j = 66 ∨ j = 67 ∨ j = 68 ∨ j = 69 ∨ j = 70 ∨ j = 71 ∨ j = 72 := by omega
  rcases h with rfl | rfl | rfl | rfl | rfl | rfl | rfl | rfl | rfl | rfl | rfl | rfl | rfl
  · exact k60
  · exact k61
  · exact k62
  · exact k63
  · exact k64
  · exact k65
  · exact k66
  · exact k67
  · exact k68
  · exact k69
  · exact k70
  · exact k71
  · exact k72
end Go.Proofs.Ytalfkkagbajjcaa
