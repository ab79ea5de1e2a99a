/- Numbers at which RoundFit takes sines are among those at which the sine is told. Conditions: n from 13 to 14. -/
import Derived.Test.YtcbaanidbkjmcaaArgs
namespace Go.Proofs.Ytcbaanidbkjmcaa
open Go Go.RowKit

theorem args_fit2 : ∀ d, d < 2 → ∀ j, j < 13 + d → ∀ k, k < 13 + d → okC (argX (13 + d) j k) = true := by decide +kernel

end Go.Proofs.Ytcbaanidbkjmcaa
