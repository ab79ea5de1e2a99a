/- The reckoning, done by the kernel: cubics whose first root has a number from 15 to 29. Conditions: none. -/
import Derived.Test.YtalfkkagbajjcaaZ11
namespace Go.Proofs.Ytalfkkagbajjcaa
set_option linter.unusedSimpArgs false
set_option linter.unusedVariables false
set_option maxRecDepth 100000
theorem k15 : cubAll 15 = true := by decide +kernel
theorem k16 : cubAll 16 = true := by decide +kernel
theorem k17 : cubAll 17 = true := by decide +kernel
theorem k18 : cubAll 18 = true := by decide +kernel
theorem k19 : cubAll 19 = true := by decide +kernel
theorem k20 : cubAll 20 = true := by decide +kernel
theorem k21 : cubAll 21 = true := by decide +kernel
theorem k22 : cubAll 22 = true := by decide +kernel
theorem k23 : cubAll 23 = true := by decide +kernel
theorem k24 : cubAll 24 = true := by decide +kernel
theorem k25 : cubAll 25 = true := by decide +kernel
theorem k26 : cubAll 26 = true := by decide +kernel
theorem k27 : cubAll 27 = true := by decide +kernel
theorem k28 : cubAll 28 = true := by decide +kernel
theorem k29 : cubAll 29 = true := by decide +kernel
theorem kAllb (j : Nat) (h1 : 15 ≤ j) (h2 : j < 30) : cubAll j = true := by
  have h : j = 15 ∨ j = 16 ∨ j = 17 ∨ j = 18 ∨ j = 19 ∨ j = 20 ∨ j = 21 ∨ j = 22 ∨ j = 23 ∨ j = 24 ∨ j = 25 ∨ j = 26 ∨ j = 27 ∨ j = 28 ∨ j = 29 := by omega
  rcases h with rfl | rfl | rfl | rfl | rfl | rfl | rfl | rfl | rfl | rfl | rfl | rfl | rfl | rfl | rfl
  · exact k15
  · exact k16
  · exact k17
  · exact k18
  · exact k19
  · exact k20
  · exact k21
  · exact k22
  · exact k23
  · exact k24
  · exact k25
  · exact k26
  · exact k27
  · exact k28
  · exact k29
end Go.Proofs.Ytalfkkagbajjcaa
