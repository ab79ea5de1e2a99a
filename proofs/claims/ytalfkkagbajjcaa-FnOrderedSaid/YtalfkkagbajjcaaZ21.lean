/- The reckoning, done by the kernel: quadratics. Conditions: none. -/
import Derived.Test.YtalfkkagbajjcaaZ12
namespace Go.Proofs.Ytalfkkagbajjcaa
set_option linter.unusedSimpArgs false
set_option linter.unusedVariables false
set_option maxRecDepth 100000
theorem kQua : quaAll = true := by decide +kernel
end Go.Proofs.Ytalfkkagbajjcaa
