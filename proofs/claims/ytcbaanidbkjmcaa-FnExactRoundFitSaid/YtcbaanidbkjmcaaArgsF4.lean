/- Numbers at which RoundFit takes sines are among those at which the sine is told. Conditions: n from 16 to 16. -/
import Derived.Test.YtcbaanidbkjmcaaArgs
namespace Go.Proofs.Ytcbaanidbkjmcaa
open Go Go.RowKit

theorem args_fit4 : ∀ d, d < 1 → ∀ j, j < 16 + d → ∀ k, k < 16 + d → okC (argX (16 + d) j k) = true := by decide +kernel

end Go.Proofs.Ytcbaanidbkjmcaa
