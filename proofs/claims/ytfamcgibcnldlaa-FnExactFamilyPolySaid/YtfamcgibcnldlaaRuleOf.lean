/- FnExactRuleOf returns true for all arguments. Conditions: none. -/
import Derived.Test.YtfamcgibcnldlaaWiden
import Derived.Test.YtfamcgibcnldlaaRule
import Derived.Test.YtfamcgibcnldlaaRows
import Derived.ProofKit
import Derived.OpenShut
namespace Go.Proofs.Ytfamcgibcnldlaa
open Go Go.RowKit
set_option linter.unusedSimpArgs false
set_option linter.unusedVariables false

/-- A number lies within two others. -/
def inB (lo n hi : Int) : Bool := decide (lo ≤ n ∧ n ≤ hi)
theorem inB_true {lo n hi : Int} : inB lo n hi = true ↔ lo ≤ n ∧ n ≤ hi := by simp [inB]
theorem inB_false {lo n hi : Int} : inB lo n hi = false ↔ ¬ (lo ≤ n ∧ n ≤ hi) := by simp [inB]

theorem in_spec (n lo hi : Int) (w : World) : Calls Try.prog 38 #[.int .i64 n, .int .i64 lo, .int .i64 hi] w fun e w' => e = .returned (.bool (inB lo n hi)) ∧ w = w' := by
  by_cases h1 : lo ≤ n
  · by_cases h2 : n ≤ hi
    · have hd : inB lo n hi = true := by simp [inB, h1, h2]
      rw [hd]; clear hd
      go_enter Try.func38, Try.ntmps38
      go_wp2
      go_ret
      exact ⟨rfl, rfl⟩
    · have hd : inB lo n hi = false := by simp [inB, h2]
      rw [hd]; clear hd
      go_enter Try.func38, Try.ntmps38
      go_wp2
      go_ret
      exact ⟨rfl, rfl⟩
  · have hd : inB lo n hi = false := by simp [inB, h1]
    rw [hd]; clear hd
    go_enter Try.func38, Try.ntmps38
    go_wp2
    go_ret
    exact ⟨rfl, rfl⟩

theorem within_impl (n lo hi : Int) (w : World) : Calls Try.prog 39 #[.int .i64 n, .int .i64 lo, .int .i64 hi] w fun e w' => e = .returned (.bool (inB lo n hi)) ∧ w = w' := by
  by_cases h1 : lo ≤ n
  · by_cases h2 : n ≤ hi
    · have hd : inB lo n hi = true := by simp [inB, h1, h2]
      rw [hd]; clear hd
      go_enter Try.func39, Try.ntmps39
      go_wp2
      go_ret
      exact ⟨rfl, rfl⟩
    · have hd : inB lo n hi = false := by simp [inB, h2]
      rw [hd]; clear hd
      go_enter Try.func39, Try.ntmps39
      go_wp2
      go_ret
      exact ⟨rfl, rfl⟩
  · have hd : inB lo n hi = false := by simp [inB, h1]
    rw [hd]; clear hd
    go_enter Try.func39, Try.ntmps39
    go_wp2
    go_ret
    exact ⟨rfl, rfl⟩

/-- A kind and a number are those of a polynomial of a family. -/
def kindB (kind n : Int) : Bool := inB 0 kind 4 && inB 0 n 16

theorem family_spec (kind n : Int) (w : World) : Calls Try.prog 19 #[.int .i64 kind, .int .i64 n] w fun e w' => e = .returned (.bool (kindB kind n)) ∧ w = w' := by
  cases h1 : inB 0 kind 4
  all_goals
    go_enter Try.func19, Try.ntmps19
    go_wp2_with (go_at_call 38; refine (in_spec _ _ _ _).mono ?_; rintro e w' ⟨rfl, rfl⟩)
    go_ret
    exact ⟨by simp [kindB, h1], rfl⟩

theorem isKind_impl (kind n : Int) (w : World) : Calls Try.prog 21 #[.int .i64 kind, .int .i64 n] w fun e w' => e = .returned (.bool (kindB kind n)) ∧ w = w' := by
  cases h1 : inB 0 kind 4
  all_goals
    go_enter Try.func21, Try.ntmps21
    go_wp2_with (go_at_call 39; refine (within_impl _ _ _ _).mono ?_; rintro e w' ⟨rfl, rfl⟩)
    go_ret
    exact ⟨by simp [kindB, h1], rfl⟩

/-- Three numbers and whether they are there. -/
def Ret3B (A : Nat × Nat × Nat) (ok : Bool) (w : World) (e : Ending) (w' : World) : Prop :=
  ∃ a b c m, e = .returned (.tuple #[.float .f32 a, .float .f32 b, .float .f32 c, .bool ok]) ∧ nrm .f32 a = A.1 ∧ nrm .f32 b = A.2.1 ∧ nrm .f32 c = A.2.2 ∧ w' = w.drewN m

def ruleOfF (kind n : Int) : Nat × Nat × Nat := if kindB kind n = true then ruleF kind n else (nrm .f32 0, nrm .f32 0, nrm .f32 0)

set_option maxRecDepth 100000 in
theorem ruleOf_spec (kind n : Int) (w : World) (h0 : -9223372036854775808 ≤ n) (h1 : n ≤ 9223372036854775807) :
    Calls Try.prog 6 #[.int .i64 kind, .int .i64 n] w (Ret3B (ruleOfF kind n) (kindB kind n) w) := by
  by_cases hk : kindB kind n = true
  · have hfin : ruleOfF kind n = ruleF kind n := by simp [ruleOfF, hk]
    have H := Lib.hid hfin
    clear hfin
    go_enter Try.func6, Try.ntmps6
    go_wp2_with (first | (go_at_call 19; refine (family_spec _ _ _).mono ?_; rintro e w' ⟨rfl, rfl⟩) | (go_at_call 20; refine (rule_spec _ _ _ h0 h1).mono ?_; rintro e w' ⟨ra, rb, rc, m, rfl, ha, hb, hc, rfl⟩))
    rw [H.out, hk]
    exact bodyPost_ret (v := .tuple #[.float .f32 ra, .float .f32 rb, .float .f32 rc, .bool true]) (by simp [results, Try.results6, go_sem]) rfl ⟨_, _, _, _, rfl, ha, hb, hc, rfl⟩
  · have hk : kindB kind n = false := by simpa using hk
    have hfin : ruleOfF kind n = (nrm .f32 0, nrm .f32 0, nrm .f32 0) := by simp [ruleOfF, hk]
    have H := Lib.hid hfin
    clear hfin
    go_enter Try.func6, Try.ntmps6
    go_wp2_with (first | (go_at_call 19; refine (family_spec _ _ _).mono ?_; rintro e w' ⟨rfl, rfl⟩))
    rw [H.out, hk]
    exact bodyPost_ret (v := .tuple #[.float .f32 0, .float .f32 0, .float .f32 0, .bool false]) (by simp [results, Try.results6, go_sem]) rfl ⟨0, 0, 0, 0, rfl, rfl, rfl, rfl, rfl⟩

set_option maxRecDepth 100000 in
theorem ruleOf_impl (kind n : Int) (w : World) (h0 : -9223372036854775808 ≤ n) (h1 : n ≤ 9223372036854775807) :
    Calls Try.prog 7 #[.int .i64 kind, .int .i64 n] w (Ret3B (ruleOfF kind n) (kindB kind n) w) := by
  by_cases hk : kindB kind n = true
  · have hfin : ruleOfF kind n = ruleF kind n := by simp [ruleOfF, hk]
    have H := Lib.hid hfin
    clear hfin
    go_enter Try.func7, Try.ntmps7
    go_wp2_with (first | (go_at_call 21; refine (isKind_impl _ _ _).mono ?_; rintro e w' ⟨rfl, rfl⟩) | (go_at_call 22; refine (rule_impl _ _ _ h0 h1).mono ?_; rintro e w' ⟨ra, rb, rc, m, rfl, ha, hb, hc, rfl⟩))
    rw [H.out, hk]
    exact bodyPost_ret (v := .tuple #[.float .f32 ra, .float .f32 rb, .float .f32 rc, .bool true]) (by simp [results, Try.results7, go_sem]) rfl ⟨_, _, _, _, rfl, ha, hb, hc, rfl⟩
  · have hk : kindB kind n = false := by simpa using hk
    have hfin : ruleOfF kind n = (nrm .f32 0, nrm .f32 0, nrm .f32 0) := by simp [ruleOfF, hk]
    have H := Lib.hid hfin
    clear hfin
    go_enter Try.func7, Try.ntmps7
    go_wp2_with (first | (go_at_call 21; refine (isKind_impl _ _ _).mono ?_; rintro e w' ⟨rfl, rfl⟩))
    rw [H.out, hk]
    exact bodyPost_ret (v := .tuple #[.float .f32 0, .float .f32 0, .float .f32 0, .bool false]) (by simp [results, Try.results7, go_sem]) rfl ⟨0, 0, 0, 0, rfl, rfl, rfl, rfl, rfl⟩

set_option maxRecDepth 100000 in
theorem law_RuleOf (kind n : Int) (w : World) (h0 : -9223372036854775808 ≤ n) (h1 : n ≤ 9223372036854775807) :
    Calls Try.prog 3 #[.int .i64 kind, .int .i64 n] w (RetB true w) := by
  have hf := fun x => fits_widen x
  go_enter Try.func3, Try.ntmps3
  go_wp2_with fail
  refine (ruleOf_spec _ _ _ h0 h1).mono ?_
  rintro e w' ⟨ra, rb, rc, m, rfl, ha, hb, hc, rfl⟩
  go_wp2_with fail
  refine (ruleOf_impl _ _ _ h0 h1).mono ?_
  rintro e w' ⟨sa, sb, sc, m', rfl, ha', hb', hc', rfl⟩
  generalize ruleOfF kind n = A at *
  obtain ⟨A1, A2, A3⟩ := A
  dsimp only at *
  go_wp2_with (first | ((with_reducible refine wpList_fcvtg _ _ _ rfl .f32 .f64 _ ?_ Try.underlying26 rfl (fits_widen _) ?_ ?_); (rw [Try.underlying22]; rfl); exact rfl; intro r m hr) | (go_at_call 8; refine (sameFloat_true _ _ _ (by simp only [*])).mono ?_; rintro e w' ⟨m, rfl, rfl⟩))
  go_ret
  exact ⟨_, rfl, rfl⟩

end Go.Proofs.Ytfamcgibcnldlaa
