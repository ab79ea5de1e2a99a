/- The reckoning, done by the kernel: cubics whose first root has a number from 0 to 14. Conditions: none. -/
import Derived.Test.YtalfkkagbajjcaaZ11
namespace Go.Proofs.Ytalfkkagbajjcaa
set_option linter.unusedSimpArgs false
set_option linter.unusedVariables false
set_option maxRecDepth 100000
theorem k0 : cubAll 0 = true := by decide +kernel
theorem k1 : cubAll 1 = true := by decide +kernel
theorem k2 : cubAll 2 = true := by decide +kernel
theorem k3 : cubAll 3 = true := by decide +kernel
theorem k4 : cubAll 4 = true := by decide +kernel
theorem k5 : cubAll 5 = true := by decide +kernel
theorem k6 : cubAll 6 = true := by decide +kernel
theorem k7 : cubAll 7 = true := by decide +kernel
theorem k8 : cubAll 8 = true := by decide +kernel
theorem k9 : cubAll 9 = true := by decide +kernel
theorem k10 : cubAll 10 = true := by decide +kernel
theorem k11 : cubAll 11 = true := by decide +kernel
theorem k12 : cubAll 12 = true := by decide +kernel
theorem k13 : cubAll 13 = true := by decide +kernel
theorem k14 : cubAll 14 = true := by decide +kernel
theorem kAlla (j : Nat) (h1 : 0 ≤ j) (h2 : j < 15) : cubAll j = true := by
  have h : j = 0 ∨ j = 1 ∨ j = 2 ∨ j = 3 ∨ j = 4 ∨ j = 5 ∨ j = 6 ∨ j = 7 ∨ j = 8 ∨ j = 9 ∨ j = 10 ∨ j = 11 ∨ j = 12 ∨ j = 13 ∨ j = 14 := by omega
  rcases h with rfl | rfl | rfl | rfl | rfl | rfl | rfl | rfl | rfl | rfl | rfl | rfl | rfl | rfl | rfl
  · exact k0
  · exact k1
  · exact k2
  · exact k3
  · exact k4
  · exact k5
  · exact k6
  · exact k7
  · exact k8
  · exact k9
  · exact k10
  · exact k11
  · exact k12
  · exact k13
  · exact k14
end Go.Proofs.Ytalfkkagbajjcaa
