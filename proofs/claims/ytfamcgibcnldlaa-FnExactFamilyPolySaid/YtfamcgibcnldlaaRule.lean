/- The rule of a family, of the program and of the reference: both give the same three numbers, up to the bits of a NaN. Conditions: none. -/
import Derived.Test.YtfamcgibcnldlaaFloat
import Derived.Test.YtfamcgibcnldlaaChecked
namespace Go.Proofs.Ytfamcgibcnldlaa
open Go Go.RowKit
set_option linter.unusedSimpArgs false
set_option linter.unusedVariables false

def one32 : Nat := 1065353216
def two32 : Nat := 1073741824

/-- The three numbers of a rule, with the bits of a NaN forgotten. -/
def ruleF (kind n : Int) : Nat × Nat × Nat :=
  let k := nrm .f32 (floatOfInt .f32 n)
  let k1 := fop .add .f32 k (nrm .f32 one32)
  let k2 := fop .add .f32 (fop .mul .f32 (nrm .f32 two32) k) (nrm .f32 one32)
  if kind = 0 then (if n = 0 then (nrm .f32 one32, nrm .f32 0, nrm .f32 one32) else (nrm .f32 two32, nrm .f32 0, nrm .f32 one32))
  else if kind = 1 then (nrm .f32 two32, nrm .f32 0, nrm .f32 one32)
  else if kind = 2 then (fop .quo .f32 k2 k1, nrm .f32 0, fop .quo .f32 k k1)
  else if kind = 3 then (nrm .f32 one32, nrm .f32 0, k)
  else (fop .quo .f32 (nrm .f32 3212836864) k1, fop .quo .f32 k2 k1, fop .quo .f32 k k1)

def Ret3 (A : Nat × Nat × Nat) (w : World) (e : Ending) (w' : World) : Prop :=
  ∃ a b c m, e = .returned (.tuple #[.float .f32 a, .float .f32 b, .float .f32 c]) ∧ nrm .f32 a = A.1 ∧ nrm .f32 b = A.2.1 ∧ nrm .f32 c = A.2.2 ∧ w' = w.drewN m

set_option maxRecDepth 100000 in
theorem rule_impl (kind n : Int) (w : World) (h0 : -9223372036854775808 ≤ n) (h1 : n ≤ 9223372036854775807) :
    Calls Try.prog 22 #[.int .i64 kind, .int .i64 n] w (Ret3 (ruleF kind n) w) := by
  by_cases k0 : kind = 0
  · have e0 : (kind == 0) = true := by simpa using k0
    by_cases n0 : n = 0
    · have f0 : (n == 0) = true := by simpa using n0
      have hfin : ruleF kind n = (nrm .f32 one32, nrm .f32 0, nrm .f32 one32) := by simp [ruleF, k0, n0]
      have H := Lib.hid hfin
      clear hfin k0 n0
      go_enter Try.func22, Try.ntmps22
      go_wp2
      go_ret3
      rw [H.out]
      exact ⟨_, _, _, 0, rfl, rfl, rfl, rfl, rfl⟩
    · have f0 : (n == 0) = false := by simpa using n0
      have hfin : ruleF kind n = (nrm .f32 two32, nrm .f32 0, nrm .f32 one32) := by simp [ruleF, k0, n0]
      have H := Lib.hid hfin
      clear hfin k0 n0
      go_enter Try.func22, Try.ntmps22
      go_wp2
      go_ret3
      rw [H.out]
      exact ⟨_, _, _, 0, rfl, rfl, rfl, rfl, rfl⟩
  · have e0 : (kind == 0) = false := by simpa using k0
    by_cases k1 : kind = 1
    · have e1 : (kind == 1) = true := by simpa using k1
      have hfin : ruleF kind n = (nrm .f32 two32, nrm .f32 0, nrm .f32 one32) := by simp [ruleF, k1]
      have H := Lib.hid hfin
      clear hfin k0 k1
      go_enter Try.func22, Try.ntmps22
      go_wp2
      go_ret3
      rw [H.out]
      exact ⟨_, _, _, 0, rfl, rfl, rfl, rfl, rfl⟩
    · have e1 : (kind == 1) = false := by simpa using k1
      by_cases k2 : kind = 2
      · have e2 : (kind == 2) = true := by simpa using k2
        have hfin : ruleF kind n = (fop .quo .f32 (fop .add .f32 (fop .mul .f32 (nrm .f32 two32) (nrm .f32 (floatOfInt .f32 n))) (nrm .f32 one32)) (fop .add .f32 (nrm .f32 (floatOfInt .f32 n)) (nrm .f32 one32)), nrm .f32 0, fop .quo .f32 (nrm .f32 (floatOfInt .f32 n)) (fop .add .f32 (nrm .f32 (floatOfInt .f32 n)) (nrm .f32 one32))) := by simp [ruleF, k2]
        have H := Lib.hid hfin
        clear hfin k0 k1 k2
        go_enter Try.func22, Try.ntmps22
        go_wp2_with (with_reducible refine wpList_fop rfl _ _ _ _ _ rfl rfl .f32 _ _ rfl rfl ?_; intro r m hr)
        go_ret3
        rw [H.out]
        refine ⟨_, _, _, _, rfl, ?_, rfl, ?_, rfl⟩ <;> simp only [*, one32, two32]
      · have e2 : (kind == 2) = false := by simpa using k2
        by_cases k3 : kind = 3
        · have e3 : (kind == 3) = true := by simpa using k3
          have hfin : ruleF kind n = (nrm .f32 one32, nrm .f32 0, nrm .f32 (floatOfInt .f32 n)) := by simp [ruleF, k3]
          have H := Lib.hid hfin
          clear hfin k0 k1 k2 k3
          go_enter Try.func22, Try.ntmps22
          go_wp2
          go_ret3
          rw [H.out]
          exact ⟨_, _, _, 0, rfl, rfl, rfl, rfl, rfl⟩
        · have e3 : (kind == 3) = false := by simpa using k3
          have hfin : ruleF kind n = (fop .quo .f32 (nrm .f32 3212836864) (fop .add .f32 (nrm .f32 (floatOfInt .f32 n)) (nrm .f32 one32)), fop .quo .f32 (fop .add .f32 (fop .mul .f32 (nrm .f32 two32) (nrm .f32 (floatOfInt .f32 n))) (nrm .f32 one32)) (fop .add .f32 (nrm .f32 (floatOfInt .f32 n)) (nrm .f32 one32)), fop .quo .f32 (nrm .f32 (floatOfInt .f32 n)) (fop .add .f32 (nrm .f32 (floatOfInt .f32 n)) (nrm .f32 one32))) := by simp [ruleF, k0, k1, k2, k3]
          have H := Lib.hid hfin
          clear hfin k0 k1 k2 k3
          go_enter Try.func22, Try.ntmps22
          go_wp2_with (with_reducible refine wpList_fop rfl _ _ _ _ _ rfl rfl .f32 _ _ rfl rfl ?_; intro r m hr)
          go_ret3
          rw [H.out]
          refine ⟨_, _, _, _, rfl, ?_, ?_, ?_, rfl⟩ <;> simp only [*, one32, two32]

set_option maxRecDepth 100000 in
theorem rule_spec (kind n : Int) (w : World) (h0 : -9223372036854775808 ≤ n) (h1 : n ≤ 9223372036854775807) :
    Calls Try.prog 20 #[.int .i64 kind, .int .i64 n] w (Ret3 (ruleF kind n) w) := by
  by_cases k0 : kind = 0
  · have e0 : (kind == 0) = true := by simpa using k0
    by_cases n0 : n = 0
    · have f0 : (n == 0) = true := by simpa using n0
      have hfin : ruleF kind n = (nrm .f32 one32, nrm .f32 0, nrm .f32 one32) := by simp [ruleF, k0, n0]
      have H := Lib.hid hfin
      clear hfin k0 n0
      go_enter Try.func20, Try.ntmps20
      go_wp2
      go_ret3
      rw [H.out]
      exact ⟨_, _, _, 0, rfl, rfl, rfl, rfl, rfl⟩
    · have f0 : (n == 0) = false := by simpa using n0
      have hfin : ruleF kind n = (nrm .f32 two32, nrm .f32 0, nrm .f32 one32) := by simp [ruleF, k0, n0]
      have H := Lib.hid hfin
      clear hfin k0 n0
      go_enter Try.func20, Try.ntmps20
      go_wp2
      go_ret3
      rw [H.out]
      exact ⟨_, _, _, 0, rfl, rfl, rfl, rfl, rfl⟩
  · have e0 : (kind == 0) = false := by simpa using k0
    by_cases k1 : kind = 1
    · have e1 : (kind == 1) = true := by simpa using k1
      have hfin : ruleF kind n = (nrm .f32 two32, nrm .f32 0, nrm .f32 one32) := by simp [ruleF, k1]
      have H := Lib.hid hfin
      clear hfin k0 k1
      go_enter Try.func20, Try.ntmps20
      go_wp2
      go_ret3
      rw [H.out]
      exact ⟨_, _, _, 0, rfl, rfl, rfl, rfl, rfl⟩
    · have e1 : (kind == 1) = false := by simpa using k1
      by_cases k2 : kind = 2
      · have e2 : (kind == 2) = true := by simpa using k2
        have hfin : ruleF kind n = (fop .quo .f32 (fop .add .f32 (fop .mul .f32 (nrm .f32 two32) (nrm .f32 (floatOfInt .f32 n))) (nrm .f32 one32)) (fop .add .f32 (nrm .f32 (floatOfInt .f32 n)) (nrm .f32 one32)), nrm .f32 0, fop .quo .f32 (nrm .f32 (floatOfInt .f32 n)) (fop .add .f32 (nrm .f32 (floatOfInt .f32 n)) (nrm .f32 one32))) := by simp [ruleF, k2]
        have H := Lib.hid hfin
        clear hfin k0 k1 k2
        go_enter Try.func20, Try.ntmps20
        go_wp2_with (with_reducible refine wpList_fop rfl _ _ _ _ _ rfl rfl .f32 _ _ rfl rfl ?_; intro r m hr)
        go_ret3
        rw [H.out]
        refine ⟨_, _, _, _, rfl, ?_, rfl, ?_, rfl⟩ <;> simp only [*, one32, two32]
      · have e2 : (kind == 2) = false := by simpa using k2
        by_cases k3 : kind = 3
        · have e3 : (kind == 3) = true := by simpa using k3
          have hfin : ruleF kind n = (nrm .f32 one32, nrm .f32 0, nrm .f32 (floatOfInt .f32 n)) := by simp [ruleF, k3]
          have H := Lib.hid hfin
          clear hfin k0 k1 k2 k3
          go_enter Try.func20, Try.ntmps20
          go_wp2
          go_ret3
          rw [H.out]
          exact ⟨_, _, _, 0, rfl, rfl, rfl, rfl, rfl⟩
        · have e3 : (kind == 3) = false := by simpa using k3
          have hfin : ruleF kind n = (fop .quo .f32 (nrm .f32 3212836864) (fop .add .f32 (nrm .f32 (floatOfInt .f32 n)) (nrm .f32 one32)), fop .quo .f32 (fop .add .f32 (fop .mul .f32 (nrm .f32 two32) (nrm .f32 (floatOfInt .f32 n))) (nrm .f32 one32)) (fop .add .f32 (nrm .f32 (floatOfInt .f32 n)) (nrm .f32 one32)), fop .quo .f32 (nrm .f32 (floatOfInt .f32 n)) (fop .add .f32 (nrm .f32 (floatOfInt .f32 n)) (nrm .f32 one32))) := by simp [ruleF, k0, k1, k2, k3]
          have H := Lib.hid hfin
          clear hfin k0 k1 k2 k3
          go_enter Try.func20, Try.ntmps20
          go_wp2_with (with_reducible refine wpList_fop rfl _ _ _ _ _ rfl rfl .f32 _ _ rfl rfl ?_; intro r m hr)
          go_ret3
          rw [H.out]
          refine ⟨_, _, _, _, rfl, ?_, ?_, ?_, rfl⟩ <;> simp only [*, one32, two32]

end Go.Proofs.Ytfamcgibcnldlaa
