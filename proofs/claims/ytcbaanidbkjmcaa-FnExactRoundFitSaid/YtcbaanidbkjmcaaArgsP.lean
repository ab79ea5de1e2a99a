/- The numbers at which RoundPoints takes sines are among those at which the sine is told. Conditions: n from 1 to 17. -/
import Derived.Test.YtcbaanidbkjmcaaArgs
namespace Go.Proofs.Ytcbaanidbkjmcaa
open Go Go.RowKit

theorem args_point : ∀ n, n < 18 → ∀ k, k < n → okC (argX n 1 k) = true := by decide +kernel
theorem arg_point {n k : Nat} (hn : n < 18) (hk : k < n) : okX (argX n 1 k) = true := by rw [← okC_eq]; exact args_point n hn k hk

end Go.Proofs.Ytcbaanidbkjmcaa
