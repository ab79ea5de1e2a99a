/- Numbers at which RoundFit takes sines are among those at which the sine is told. Conditions: n from 15 to 15. -/
import Derived.Test.YtcbaanidbkjmcaaArgs
namespace Go.Proofs.Ytcbaanidbkjmcaa
open Go Go.RowKit

theorem args_fit3 : ∀ d, d < 1 → ∀ j, j < 15 + d → ∀ k, k < 15 + d → okC (argX (15 + d) j k) = true := by decide +kernel

end Go.Proofs.Ytcbaanidbkjmcaa
