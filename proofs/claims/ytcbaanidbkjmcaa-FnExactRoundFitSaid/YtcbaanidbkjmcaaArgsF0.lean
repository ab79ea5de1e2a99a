/- Numbers at which RoundFit takes sines are among those at which the sine is told. Conditions: n from 1 to 9. -/
import Derived.Test.YtcbaanidbkjmcaaArgs
namespace Go.Proofs.Ytcbaanidbkjmcaa
open Go Go.RowKit

theorem args_fit0 : ∀ d, d < 9 → ∀ j, j < 1 + d → ∀ k, k < 1 + d → okC (argX (1 + d) j k) = true := by decide +kernel

end Go.Proofs.Ytcbaanidbkjmcaa
