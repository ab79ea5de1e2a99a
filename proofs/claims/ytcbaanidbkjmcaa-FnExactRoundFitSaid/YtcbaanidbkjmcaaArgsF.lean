/- The numbers at which RoundFit takes sines are among those at which the sine is told. Conditions: n from 1 to 17. -/
import Derived.Test.YtcbaanidbkjmcaaArgsF0
import Derived.Test.YtcbaanidbkjmcaaArgsF1
import Derived.Test.YtcbaanidbkjmcaaArgsF2
import Derived.Test.YtcbaanidbkjmcaaArgsF3
import Derived.Test.YtcbaanidbkjmcaaArgsF4
import Derived.Test.YtcbaanidbkjmcaaArgsF5
namespace Go.Proofs.Ytcbaanidbkjmcaa
open Go Go.RowKit

theorem arg_fit {n j k : Nat} (hn : n < 18) (hj : j < n) (hk : k < n) : okX (argX n j k) = true := by
  rw [← okC_eq]
  by_cases h0 : n < 10
  · obtain ⟨d, rfl⟩ : ∃ d, n = 1 + d := ⟨n - 1, by omega⟩
    exact args_fit0 d (by omega) j hj k hk
  by_cases h1 : n < 13
  · obtain ⟨d, rfl⟩ : ∃ d, n = 10 + d := ⟨n - 10, by omega⟩
    exact args_fit1 d (by omega) j hj k hk
  by_cases h2 : n < 15
  · obtain ⟨d, rfl⟩ : ∃ d, n = 13 + d := ⟨n - 13, by omega⟩
    exact args_fit2 d (by omega) j hj k hk
  by_cases h3 : n < 16
  · obtain ⟨d, rfl⟩ : ∃ d, n = 15 + d := ⟨n - 15, by omega⟩
    exact args_fit3 d (by omega) j hj k hk
  by_cases h4 : n < 17
  · obtain ⟨d, rfl⟩ : ∃ d, n = 16 + d := ⟨n - 16, by omega⟩
    exact args_fit4 d (by omega) j hj k hk
  by_cases h5 : n < 18
  · obtain ⟨d, rfl⟩ : ∃ d, n = 17 + d := ⟨n - 17, by omega⟩
    exact args_fit5 d (by omega) j hj k hk
  omega

end Go.Proofs.Ytcbaanidbkjmcaa
