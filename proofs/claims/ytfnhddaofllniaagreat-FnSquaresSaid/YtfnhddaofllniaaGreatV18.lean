/- Inverse distances of neighbouring roots: their product and sum, by reckoning. Conditions: distances in eighths. -/
import Derived.Test.YtfnhddaofllniaaGreatV17
namespace Go.Proofs.YtfnhddaofllniaaGreat
open Go
set_option linter.unusedSimpArgs false
set_option linter.unusedVariables false

theorem j1 : ∀ A : Nat, A < 13 → ∀ B : Nat, B < 13 → (4 ≤ A ∧ 4 ≤ B ∧ 12 ≤ A + B → 32 ≤ A * B) := by decide +kernel
def j2 (A B s t : Nat) : Bool := (((A : Int) - B) * ((A : Int) - B) + ((s : Int) + t - 32) * ((s : Int) + t - 32)) * 104857600 ≤ 2401 * ((((A : Int) * A + ((s : Int) - 16) * ((s : Int) - 16)) * ((B : Int) * B + ((t : Int) - 16) * ((t : Int) - 16))) * (((A : Int) * A + ((s : Int) - 16) * ((s : Int) - 16)) * ((B : Int) * B + ((t : Int) - 16) * ((t : Int) - 16))))
theorem j2_ok : ∀ A : Nat, A < 13 → ∀ B : Nat, B < 13 → (4 ≤ A ∧ 4 ≤ B ∧ 12 ≤ A + B → ∀ s : Nat, s < 33 → ∀ t : Nat, t < 33 → j2 A B s t = true) := by decide +kernel
end Go.Proofs.YtfnhddaofllniaaGreat
