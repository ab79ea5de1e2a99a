/- The reckoning, done by the kernel: cubics whose first root has a number from 30 to 44. Conditions: none. -/
import Derived.Test.YtalfkkagbajjcaaZ11
namespace Go.Proofs.Ytalfkkagbajjcaa
set_option linter.unusedSimpArgs false
set_option linter.unusedVariables false
set_option maxRecDepth 100000
theorem k30 : cubAll 30 = true := by decide +kernel
theorem k31 : cubAll 31 = true := by decide +kernel
theorem k32 : cubAll 32 = true := by decide +kernel
theorem k33 : cubAll 33 = true := by decide +kernel
theorem k34 : cubAll 34 = true := by decide +kernel
theorem k35 : cubAll 35 = true := by decide +kernel
theorem k36 : cubAll 36 = true := by decide +kernel
theorem k37 : cubAll 37 = true := by decide +kernel
theorem k38 : cubAll 38 = true := by decide +kernel
theorem k39 : cubAll 39 = true := by decide +kernel
theorem k40 : cubAll 40 = true := by decide +kernel
theorem k41 : cubAll 41 = true := by decide +kernel
theorem k42 : cubAll 42 = true := by decide +kernel
theorem k43 : cubAll 43 = true := by decide +kernel
theorem k44 : cubAll 44 = true := by decide +kernel
theorem kAllc (j : Nat) (h1 : 30 ≤ j) (h2 : j < 45) : cubAll j = true := by
  have h : j = 30 ∨ j = 31 ∨ j = 32 ∨ j = 33 ∨ j = 34 ∨ j = 35 ∨ j = 36 ∨ j = 37 ∨ j = 38 ∨ j = 39 ∨ j = 40 ∨ j = 41 ∨ j = 42 ∨ j = 43 ∨ j = 44 := by omega
  rcases h with rfl | rfl | rfl | rfl | rfl | rfl | rfl | rfl | rfl | rfl | rfl | rfl | rfl | rfl | rfl
  · exact k30
  · exact k31
  · exact k32
  · exact k33
  · exact k34
  · exact k35
  · exact k36
  · exact k37
  · exact k38
  · exact k39
  · exact k40
  · exact k41
  · exact k42
  · exact k43
  · exact k44
end Go.Proofs.Ytalfkkagbajjcaa
