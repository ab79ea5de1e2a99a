/- The inverse of a number over a small prime. Conditions: both of at most 1000. -/
import Derived.Test.YtlnjkjogedbhfaaI5
namespace Go.Proofs.Ytlnjkjogedbhfaa
open Go Go.RowKit
set_option linter.unusedSimpArgs false
set_option linter.unusedVariables false

/-- The number whose product leaves 1; 0 if there is none. -/
def invZ (x m : Int) : Int := ((((List.range m.toNat).find? fun y : Nat => (x * (y : Int)) % m == 1).getD 0 : Nat) : Int)
def NoInv (x m : Int) (k : Nat) : Prop := ∀ y : Nat, y < k → (x * (y : Int)) % m ≠ 1
theorem range_split {n k : Nat} (h : k ≤ n) : List.range n = List.range k ++ (List.range (n - k)).map (k + ·) := by
  rw [← List.range_add]; congr 1; omega
theorem invZ_found {x m : Int} {k : Nat} (h : NoInv x m k) (hk : (k : Int) < m) (hx : (x * (k : Int)) % m = 1) : invZ x m = k := by
  unfold invZ
  rw [range_split (show k + 1 ≤ m.toNat by omega), List.range_succ, List.find?_append, List.find?_append]
  have e : (List.range k).find? (fun y : Nat => (x * (y : Int)) % m == 1) = none := by
    rw [List.find?_eq_none]
    intro y hy
    have := h y (List.mem_range.1 hy)
    simpa using this
  rw [e]
  simp [hx]
theorem invZ_none {x m : Int} {k : Nat} (h : NoInv x m k) (hk : m ≤ k) : invZ x m = 0 := by
  unfold invZ
  have e : (List.range m.toNat).find? (fun y : Nat => (x * (y : Int)) % m == 1) = none := by
    rw [List.find?_eq_none]
    intro y hy
    have hy := List.mem_range.1 hy
    have := h y (by omega)
    simpa using this
  rw [e]
  rfl
theorem NoInv.succ {x m : Int} {k : Nat} (h : NoInv x m k) (hx : (x * (k : Int)) % m ≠ 1) : NoInv x m (k + 1) := fun y hy => by
  by_cases e : y = k
  · subst e; exact hx
  · exact h y (by omega)
theorem NoInv.one (x m : Int) : NoInv x m 1 := fun y hy => by
  obtain rfl : y = 0 := by omega
  simp
theorem mul_small {x k : Int} (h1 : 0 ≤ x) (h2 : x ≤ 1000) (h3 : 0 ≤ k) (h4 : k ≤ 1000) : 0 ≤ x * k ∧ x * k ≤ 1000000 :=
  ⟨Int.mul_nonneg h1 h3, Int.le_trans (Int.mul_le_mul_of_nonneg_left h4 h1) (by omega)⟩

set_option maxRecDepth 100000 in
set_option maxHeartbeats 400000 in
theorem inverse_impl (x m : Int) (w : World) (h1 : 0 ≤ x) (h2 : x ≤ 1000) (hm : 1 < m) (hm2 : m ≤ 1000) : Calls Try.prog 133 #[.int .i64 x, .int .i64 m] w fun e w' => e = .returned (.int .i64 (invZ x m)) ∧ w = w' := by
  go_enter Try.func133, Try.ntmps133
  go_wp2
  go_loop [7] (fun i => ∃ k : Nat, 0 ≤ k ∧ k ≤ m ∧ i = .int .i64 k ∧ NoInv x m k) (fun i => m.toNat - (intOf i).toNat)
  case atStart => exact ⟨0, Nat.le_refl _, by omega, rfl, fun _ h => absurd h (by omega)⟩
  case round =>
    obtain ⟨k, hk0, hk, rfl, hf⟩ := hrel
    by_cases hlt : (k : Int) < m
    · have hp := mul_small h1 h2 (k := k) (by omega) (by omega)
      by_cases hx : (x * (k : Int)) % m = 1
      · have H2 := Lib.hid (invZ_found hf hlt hx)
        clear hf
        go_wp2_with (go_at_call 85; go_must (refine (rest_impl _ _ _ (by omega) (by omega) (by omega) (by omega)).mono ?_); rintro e w' ⟨rfl, rfl⟩)
        go_ret
        rw [H2.out]
        exact ⟨rfl, rfl⟩
      · have H2 := Lib.hid (hf.succ hx)
        clear hf
        have hx' : (x * (k : Int) % m == 1) = false := by simpa using hx
        clear hx
        go_wp2_with (go_at_call 85; go_must (refine (rest_impl _ _ _ (by omega) (by omega) (by omega) (by omega)).mono ?_); rintro e w' ⟨rfl, rfl⟩)
        go_round
        case rel => exact ⟨k + 1, by omega, by omega, by go_num, H2.out⟩
        case measure => simp [intOf]; omega
    · have H2 := Lib.hid (invZ_none hf (by omega))
      clear hf
      go_wp2
      go_ret
      rw [H2.out]
      exact ⟨rfl, rfl⟩

set_option maxRecDepth 100000 in
set_option maxHeartbeats 400000 in
theorem inverse_spec (x m : Int) (w : World) (h1 : 0 ≤ x) (h2 : x ≤ 1000) (hm : 1 < m) (hm2 : m ≤ 1000) : Calls Try.prog 127 #[.int .i64 x, .int .i64 m] w fun e w' => e = .returned (.int .i64 (invZ x m)) ∧ w = w' := by
  go_enter Try.func127, Try.ntmps127
  go_wp2
  go_loop [5] (fun i => ∃ k : Nat, 1 ≤ k ∧ k ≤ m ∧ i = .int .i64 k ∧ NoInv x m k) (fun i => m.toNat - (intOf i).toNat)
  case atStart => exact ⟨1, Nat.le_refl _, by omega, rfl, NoInv.one x m⟩
  case round =>
    obtain ⟨k, hk0, hk, rfl, hf⟩ := hrel
    by_cases hlt : (k : Int) < m
    · have hp := mul_small h1 h2 (k := k) (by omega) (by omega)
      by_cases hx : (x * (k : Int)) % m = 1
      · have H2 := Lib.hid (invZ_found hf hlt hx)
        clear hf
        go_wp2
        go_ret
        rw [H2.out]
        exact ⟨rfl, rfl⟩
      · have H2 := Lib.hid (hf.succ hx)
        clear hf
        have hx' : (x * (k : Int) % m == 1) = false := by simpa using hx
        clear hx
        go_wp2
        go_round
        case rel => exact ⟨k + 1, by omega, by omega, by go_num, H2.out⟩
        case measure => simp [intOf]; omega
    · have H2 := Lib.hid (invZ_none hf (by omega))
      clear hf
      go_wp2
      go_ret
      rw [H2.out]
      exact ⟨rfl, rfl⟩

end Go.Proofs.Ytlnjkjogedbhfaa
