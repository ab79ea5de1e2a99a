/- Numbers at which RoundFit takes sines are among those at which the sine is told. Conditions: n from 10 to 12. -/
import Derived.Test.YtcbaanidbkjmcaaArgs
namespace Go.Proofs.Ytcbaanidbkjmcaa
open Go Go.RowKit

theorem args_fit1 : ∀ d, d < 3 → ∀ j, j < 10 + d → ∀ k, k < 10 + d → okC (argX (10 + d) j k) = true := by decide +kernel

end Go.Proofs.Ytcbaanidbkjmcaa
