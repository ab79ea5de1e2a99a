/- All numbers at which RoundPoints and RoundFit take sines are among those at which the sine is told. Conditions: n from 1 to 17. -/
import Derived.Test.YtcbaanidbkjmcaaSineS
namespace Go.Proofs.Ytcbaanidbkjmcaa
open Go Go.RowKit

/-- A number that is reckoned once. -/
noncomputable def force {β : Type} (x : Nat) (f : Nat → β) : β := Nat.rec (f 0) (fun n _ => f (n + 1)) x
theorem force_eq {β : Type} (x : Nat) (f : Nat → β) : force x f = f x := by cases x <;> rfl

noncomputable def polyC (u : Nat) : (j : Nat) → Nat → Nat
  | 0, p => p
  | j + 1, p => force (fop .sub .f64 (nrm .f64 4607182418800017408) (fop .quo .f64 (fop .mul .f64 u p) (cK (7 - j)))) fun q => polyC u j q
theorem polyC_eq (u : Nat) : ∀ j, j ≤ 8 → ∀ p, p = polyS u (8 - j) → polyC u j p = polyS u 8
  | 0, _, p, h => h
  | j + 1, hj, p, h => by
    unfold polyC
    rw [force_eq]
    refine polyC_eq u j (by omega) _ ?_
    rw [show 8 - j = (8 - (j + 1)) + 1 by omega, polyS, ← h, show 8 - (j + 1) = 7 - j by omega]

noncomputable def okC (x : Nat) : Bool :=
  force x fun x => force (widF x) fun y => force (partF y) fun p =>
  force (if fcmp .geq .f64 p (nrm .f64 4602678819172646912) = true then fop .sub .f64 p (nrm .f64 4602678819172646912) else p) fun fa =>
  force (if fcmp .gtr .f64 fa (nrm .f64 4598175219545276416) = true then fop .sub .f64 (nrm .f64 4602678819172646912) fa else fa) fun fb =>
  force (fop .mul .f64 fb (nrm .f64 4618760256179416344)) fun z => force (fop .mul .f64 z z) fun u => force (polyC u 8 (nrm .f64 4607182418800017408)) fun q => force (fop .mul .f64 z q) fun r =>
  force (if fcmp .geq .f64 p (nrm .f64 4602678819172646912) = true then negF .f64 r else r) fun s =>
  !isN .f32 x && finF (nrm .f32 x) && !isN .f64 y &&
    (decide (y < 9223372036854775808) && !isN .f64 y && !fcmp .geq .f64 (nrm .f64 y) (nrm .f64 4841369599423283200) && !fcmp .leq .f64 (nrm .f64 y) (nrm .f64 14064741636278059008)
    && !fcmp .neq .f64 (fop .sub .f64 (nrm .f64 y) (nrm .f64 y)) (nrm .f64 0) && (floatToIntVal .f64 y .i64).isSome
    && (nrm .f64 (if fcmp .eql .f64 (nrm .f64 (truncI y)) (nrm .f64 0) = true then 0 else truncI y) == nrm .f64 (floatOfInt .f64 (intY y)))
    && !fcmp .lss .f64 p (nrm .f64 0) && fits .f64 .f32 s) && !isN .f64 s

theorem okC_eq (x : Nat) : okC x = okX x := by
  unfold okC okX okY
  have hp : ∀ u, polyC u 8 (nrm .f64 4607182418800017408) = polyS u 8 := fun u => polyC_eq u 8 (Nat.le_refl _) _ rfl
  simp only [force_eq, hp]
  rfl

def argX (n j k : Nat) : Nat := turnF (floatOfInt .f32 ((j * (2 * k + 1) : Nat) : Int)) (floatOfInt .f32 ((4 * n : Nat) : Int))

end Go.Proofs.Ytcbaanidbkjmcaa
