/- Candidates of factors: the next one, digit by digit. Conditions: none (plain). -/
import Derived.Test.YtlnjkjogedbhfaaIFac
namespace Go.Proofs.Ytlnjkjogedbhfaa
open Go Go.RowKit
set_option linter.unusedSimpArgs false
set_option linter.unusedVariables false

/-- The first k terms are 0. -/
def nxt (zs : List Int) : Nat → List Int
  | 0 => zs
  | k + 1 => (nxt zs k).set k 0
theorem nxt_length (zs : List Int) : ∀ k, (nxt zs k).length = zs.length
  | 0 => rfl
  | k + 1 => by rw [nxt, List.length_set, nxt_length zs k]
theorem set_get (zs : List Int) (k : Nat) (y : Int) (h : k < zs.length) (j : Nat) : (zs.set k y).getD j 0 = if j = k then y else zs.getD j 0 := by
  by_cases e : j = k
  · subst e; simp [List.getD, h]
  · rw [if_neg e]; simp only [List.getD]; rw [List.getElem?_set_ne (by omega)]
theorem nxt_get (zs : List Int) (j : Nat) : ∀ k, k ≤ zs.length → (nxt zs k).getD j 0 = if j < k then 0 else zs.getD j 0
  | 0, _ => by simp [nxt]
  | k + 1, h => by
    rw [nxt, set_get _ _ _ (by rw [nxt_length]; omega), nxt_get zs j k (by omega)]
    by_cases e : j = k
    · subst e; rw [if_pos rfl, if_pos (by omega)]
    · rw [if_neg e]
      by_cases e2 : j < k
      · rw [if_pos e2, if_pos (by omega)]
      · rw [if_neg e2, if_neg (by omega)]
theorem dg_lt {M : Nat} (hM : 0 < M) (n k : Nat) : dg M n k < M := Nat.mod_lt _ hM
theorem low_succ {M n k : Nat} (hM : 2 ≤ M) (h : n % M ^ k + 1 = M ^ k) (hd : dg M n k + 1 = M) : n % M ^ (k + 1) + 1 = M ^ (k + 1) := by
  have hd2 : n / M ^ k % M + 1 = M := hd
  rw [Nat.mod_pow_succ, Nat.pow_succ]
  generalize n / M ^ k % M = x at *
  have e : M ^ k * M = M ^ k * x + M ^ k := by rw [← hd2, Nat.mul_add, Nat.mul_one]
  omega
theorem next_dg {M n k : Nat} (hM : 2 ≤ M) (h : n % M ^ k + 1 = M ^ k) (hd : dg M n k + 1 < M) (j : Nat) : dg M (n + 1) j = if j < k then 0 else if j = k then dg M n k + 1 else dg M n j := by
  have hp : 0 < M ^ k := Nat.pow_pos (by omega)
  have e1 := Nat.div_add_mod n (M ^ k)
  have e2 : n + 1 = M ^ k * (n / M ^ k + 1) := by rw [Nat.mul_add, Nat.mul_one]; omega
  have hd2 : n / M ^ k % M + 1 < M := hd
  by_cases h1 : j < k
  · rw [if_pos h1]
    unfold dg
    have e3 : M ^ k = M ^ j * (M * M ^ (k - j - 1)) := by
      rw [← Nat.pow_succ', ← Nat.pow_add]; congr 1; omega
    rw [e2, e3, Nat.mul_assoc, Nat.mul_div_cancel_left _ (Nat.pow_pos (by omega)), Nat.mul_assoc]
    exact Nat.mul_mod_right _ _
  · rw [if_neg h1]
    have e4 : ∀ x, x % M + 1 < M → (x + 1) % M = x % M + 1 ∧ (x + 1) / M = x / M := fun x hx => by
      have e5 : x + 1 = (x % M + 1) + M * (x / M) := by have := Nat.div_add_mod x M; omega
      constructor
      · rw [e5, Nat.add_mul_mod_self_left, Nat.mod_eq_of_lt hx]
      · rw [e5, Nat.add_mul_div_left _ _ (by omega), Nat.div_eq_of_lt hx, Nat.zero_add]
    have e6 := e4 _ hd2
    have e7 : (n + 1) / M ^ k = n / M ^ k + 1 := by rw [e2, Nat.mul_div_cancel_left _ hp]
    by_cases h2 : j = k
    · subst h2
      rw [if_pos rfl]
      unfold dg
      rw [e7, e6.1]
    · rw [if_neg h2]
      have e8 : ∀ x, x / M ^ j = x / M ^ k / M / M ^ (j - k - 1) := fun x => by
        rw [Nat.div_div_eq_div_mul, Nat.div_div_eq_div_mul, ← Nat.pow_succ', ← Nat.pow_add]; congr 2; omega
      unfold dg
      rw [e8 (n + 1), e7, e6.2, ← e8]
/-- The step upward. -/
theorem next_cand {M d n k : Nat} (hM : 2 ≤ M) (hk : k < d) (h : n % M ^ k + 1 = M ^ k) (hd : dg M n k + 1 < M) : (nxt (cand M d n) k).set k ((dg M n k : Int) + 1) = cand M d (n + 1) := by
  refine ext_getD (by rw [List.length_set, nxt_length, cand_length, cand_length]) fun j => ?_
  rw [set_get _ _ _ (by rw [nxt_length, cand_length]; omega), nxt_get _ _ _ (by rw [cand_length]; omega), cand_get, cand_get, next_dg hM h hd]
  by_cases h1 : j < k
  · simp only [show ¬ j = k by omega, h1, show j < d by omega, if_true, if_false]; rfl
  · by_cases h2 : j = k
    · subst h2; simp [hk]
    · simp only [h1, h2, if_false]
theorem next_lt {M d n k : Nat} (hM : 2 ≤ M) (hk : k < d) (hn : n < M ^ d) (h : n % M ^ k + 1 = M ^ k) (hd : dg M n k + 1 < M) : n + 1 < M ^ d := by
  rcases Nat.lt_or_ge (n + 1) (M ^ d) with h1 | h1
  · exact h1
  · exfalso
    have e : n + 1 = M ^ d := by omega
    have h2 := next_dg hM h hd k
    rw [if_neg (by omega), if_pos rfl, e] at h2
    unfold dg at h2
    have e3 : M ^ d = M ^ k * (M * M ^ (d - k - 1)) := by
      rw [← Nat.pow_succ', ← Nat.pow_add]; congr 1; omega
    rw [e3, Nat.mul_div_cancel_left _ (Nat.pow_pos (by omega)), Nat.mul_mod_right] at h2
    omega
theorem low_end {M d n : Nat} (hn : n < M ^ d) (h : n % M ^ d + 1 = M ^ d) : n + 1 = M ^ d := by rwa [Nat.mod_eq_of_lt hn] at h
/-- A digit as the program finds it. -/
theorem dg_mod (M n k : Nat) : n % M ^ (k + 1) / M ^ k = dg M n k := by
  unfold dg; rw [Nat.pow_succ, Nat.mod_mul_right_div_self]
theorem mod_mod_pow (M n k : Nat) : n % M ^ (k + 1) % M ^ k = n % M ^ k := Nat.mod_mod_of_dvd _ ⟨M, Nat.pow_succ ..⟩
theorem cand_start (M d : Nat) (hM : 0 < M) : (List.replicate (d + 1) (0 : Int)).set d 1 = cand M d 0 := by
  refine ext_getD (by simp [cand_length]) fun j => ?_
  rw [set_get _ _ _ (by simp), cand_get]
  by_cases h : j = d
  · subst h; simp
  · rw [if_neg h]
    have e : (List.replicate (d + 1) (0 : Int)).getD j 0 = 0 := by
      simp only [List.getD, List.getElem?_replicate]; split <;> rfl
    rw [e]
    split
    · simp [dg]
    · rfl

theorem fs_leave {M d n : Nat} {p : List Int} {L : List (List Int)} (h : Fs M d n p L) (h2 : p.length - 1 < 2 * d ∨ n = M ^ d) : Fs M (d + 1) 0 p L := by
  cases h with
  | stop h1 => exact .stop (by omega)
  | up _ _ h3 => exact h3
  | hit _ _ => omega
  | miss _ _ => omega
theorem fs_hit {M d n : Nat} {p : List Int} {L : List (List Int)} (h : Fs M d n p L) (h1 : 2 * d ≤ p.length - 1) (h2 : n < M ^ d) (h3 : Dv M p (cand M d n)) : ∃ L', L = cand M d n :: L' ∧ Fs M d n (quo M p (cand M d n)) L' := by
  cases h with
  | stop _ => omega
  | up _ _ _ => omega
  | hit _ _ _ h4 => exact ⟨_, rfl, h4⟩
  | miss _ _ h4 => exact absurd h3 h4
theorem fs_miss {M d n : Nat} {p : List Int} {L : List (List Int)} (h : Fs M d n p L) (h1 : 2 * d ≤ p.length - 1) (h2 : n < M ^ d) (h3 : ¬ Dv M p (cand M d n)) : Fs M d (n + 1) p L := by
  cases h with
  | stop _ => omega
  | up _ _ _ => omega
  | hit _ _ h4 _ => exact absurd h4 h3
  | miss _ _ _ h4 => exact h4
theorem fs_stop {M d n : Nat} {p : List Int} {L : List (List Int)} (h : Fs M d n p L) (h1 : p.length - 1 < 2 * d) : L = if 1 < p.length then [p] else [] := by
  cases h with
  | stop _ => rfl
  | up _ _ _ => omega
  | hit _ _ _ _ => omega
  | miss _ _ _ _ => omega
theorem dv_zero {M : Nat} {p f : List Int} : zeroB (divF p f M).2 = decide (Dv M p f) := by
  by_cases h : Dv M p f
  · rw [decide_eq_true h]; exact zeroB_iff.2 h
  · rw [decide_eq_false h]
    cases hz : zeroB (divF p f M).2
    · rfl
    · exact absurd (zeroB_iff.1 hz) h
theorem gm_down {C a b : Nat} (h : a + 1 ≤ b) : a * C + C ≤ b * C := by
  have := Nat.mul_le_mul_right C h
  rwa [Nat.add_mul, Nat.one_mul] at this

theorem monic_mon {M : Nat} (hm : primeB (M : Int) = true) {a : List Int} (ha : Ovr M a) (hz : zeroB a = false) : Mon M (monicS M a) := by
  refine ⟨⟨monicS_ov hm ha.ov, monicS_trd hm ha.ov ha.trd, by rw [monicS_length]; exact ha.len⟩, ?_⟩
  have h := scale_last hm ha.ov ha.trd hz
  unfold monicS
  rw [hz, if_neg (by simp)]
  unfold lastZ
  rw [scale_length]
  exact h

end Go.Proofs.Ytlnjkjogedbhfaa
