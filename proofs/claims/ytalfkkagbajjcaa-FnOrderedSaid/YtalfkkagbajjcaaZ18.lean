/- The reckoning, done by the kernel: cubics whose first root has a number from 45 to 59. Conditions: none. -/
import Derived.Test.YtalfkkagbajjcaaZ11
namespace Go.Proofs.Ytalfkkagbajjcaa
set_option linter.unusedSimpArgs false
set_option linter.unusedVariables false
set_option maxRecDepth 100000
theorem k45 : cubAll 45 = true := by decide +kernel
theorem k46 : cubAll 46 = true := by decide +kernel
theorem k47 : cubAll 47 = true := by decide +kernel
theorem k48 : cubAll 48 = true := by decide +kernel
theorem k49 : cubAll 49 = true := by decide +kernel
theorem k50 : cubAll 50 = true := by decide +kernel
theorem k51 : cubAll 51 = true := by decide +kernel
theorem k52 : cubAll 52 = true := by decide +kernel
theorem k53 : cubAll 53 = true := by decide +kernel
theorem k54 : cubAll 54 = true := by decide +kernel
theorem k55 : cubAll 55 = true := by decide +kernel
theorem k56 : cubAll 56 = true := by decide +kernel
theorem k57 : cubAll 57 = true := by decide +kernel
theorem k58 : cubAll 58 = true := by decide +kernel
theorem k59 : cubAll 59 = true := by decide +kernel
theorem kAlld (j : Nat) (h1 : 45 ≤ j) (h2 : j < 60) : cubAll j = true := by
  have h : j = 45 ∨ j = 46 ∨ j = 47 ∨ j = 48 ∨ j = 49 ∨ j = 50 ∨ j = 51 ∨ j = 52 ∨ j = 53 ∨ j = 54 ∨ j = 55 ∨ j = 56 ∨ j = 57 ∨ j = 58 ∨ j = 59 := by omega
  rcases h with rfl | rfl | rfl | rfl | rfl | rfl | rfl | rfl | rfl | rfl | rfl | rfl | rfl | rfl | rfl
  · exact k45
  · exact k46
  · exact k47
  · exact k48
  · exact k49
  · exact k50
  · exact k51
  · exact k52
  · exact k53
  · exact k54
  · exact k55
  · exact k56
  · exact k57
  · exact k58
  · exact k59
end Go.Proofs.Ytalfkkagbajjcaa
