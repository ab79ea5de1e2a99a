/- Numbers at which RoundFit takes sines are among those at which the sine is told. Conditions: n from 17 to 17. -/
import Derived.Test.YtcbaanidbkjmcaaArgs
namespace Go.Proofs.Ytcbaanidbkjmcaa
open Go Go.RowKit

theorem args_fit5 : ∀ d, d < 1 → ∀ j, j < 17 + d → ∀ k, k < 17 + d → okC (argX (17 + d) j k) = true := by decide +kernel

end Go.Proofs.Ytcbaanidbkjmcaa
