/- Squared roots, plainly: the squared polynomial's terms and their errors. Conditions: a polynomial of words whose terms are bounded. -/
import Derived.Test.YtfnhddaofllniaaGreatV22
import Derived.Test.YtfnhddaofllniaaGreatV16
import Derived.Test.YtfnhddaofllniaaGreatV21
namespace Go.Proofs.YtfnhddaofllniaaGreat
open Go
set_option linter.unusedSimpArgs false
set_option linter.unusedVariables false

theorem cv0 : cv (0, 0) = zero2 := q2e (by decide +kernel) (by decide +kernel)
theorem zero_val {z : C2} (hf : fC z) (h : zeroC z = true) : cv z = zero2 := by
  obtain ⟨a, b⟩ := (zeroC_iff ((fC_iff z).1 hf)).1 h
  exact q2e a b
theorem trimN_zero (F : List C2) (n j : Nat) (h1 : trimN F n ≤ j) (h2 : j < n) : zeroC (F.getD j (0, 0)) = true := by
  induction n with
  | zero => omega
  | succ n ih =>
    by_cases hn : n = 0
    · subst hn; rw [trimN_small (by omega)] at h1; omega
    · cases hz : zeroC (F.getD n (0, 0))
      · rw [trimN_stop (by omega) (by simpa using hz)] at h1; omega
      · rw [trimN_step (by omega) (by simpa using hz)] at h1
        by_cases hj : j = n
        · subst hj; exact hz
        · exact ih (by simpa using h1) (by omega)
theorem getD_over {F : List C2} {j : Nat} (h : F.length ≤ j) : F.getD j (0, 0) = (0, 0) := by
  simp only [List.getD]; rw [List.getElem?_eq_none h]; rfl
theorem trim_get (F : List C2) (hf : ∀ j, fC (F.getD j (0, 0))) (j : Nat) : fC ((trimF F).getD j (0, 0)) ∧ cv ((trimF F).getD j (0, 0)) = cv (F.getD j (0, 0)) := by
  by_cases h : j < trimN F F.length
  · have e : (trimF F).getD j (0, 0) = F.getD j (0, 0) := by simp [trimF, List.getD, List.getElem?_take, h]
    rw [e]; exact ⟨hf j, rfl⟩
  · have e : (trimF F).getD j (0, 0) = (0, 0) := getD_over (by rw [trimF_length]; omega)
    rw [e]
    refine ⟨fC0.1, ?_⟩
    by_cases h2 : j < F.length
    · rw [zero_val (hf j) (trimN_zero F F.length j (by omega) h2), cv0]
    · rw [getD_over (F := F) (by omega)]
theorem ev_get (P : List C2) (a j : Nat) (ha : a ≤ 1) : (evF P a).getD j (0, 0) = P.getD (a + 2 * j) (0, 0) := by
  by_cases h : j < (P.length + 1 - a) / 2
  · simp only [evF, List.getD, List.getElem?_map, List.getElem?_range h, Option.map_some, Option.getD_some]
  · rw [getD_over (F := P) (by omega)]
    exact getD_over (by rw [evF_length]; omega)
theorem sum_mono {b : Nat → Rat} (hb : ∀ j, p2 (-10) ≤ b j ∧ b j ≤ p2 12) (k l m : Nat) (h : l ≤ m) : sumM b k l ≤ sumM b k m ∧ sumP b k l ≤ sumP b k m := by
  obtain ⟨_, _, _, z10, _⟩ := c10
  induction m with
  | zero => obtain rfl : l = 0 := by omega
            exact ⟨Rat.le_refl, Rat.le_refl⟩
  | succ m ih =>
    by_cases hl : l = m + 1
    · subst hl; exact ⟨Rat.le_refl, Rat.le_refl⟩
    · obtain ⟨a1, a2⟩ := ih (by omega)
      by_cases hk : m ≤ k
      · have e1' : sumM b k (m + 1) = sumM b k m + b m * b (k - m) := if_pos hk
        have e2' : sumP b k (m + 1) = sumP b k m + b m * b (k - m) + (sumM b k m + b m * b (k - m)) := if_pos hk
        have m0 : 0 ≤ b m * b (k - m) := Rat.mul_nonneg (Rat.le_trans z10 (hb _).1) (Rat.le_trans z10 (hb _).1)
        have s0 := (sum_ok hb k m).1
        rw [e1', e2']
        exact ⟨by grind, by grind⟩
      · have e1' : sumM b k (m + 1) = sumM b k m := if_neg hk
        have e2' : sumP b k (m + 1) = sumP b k m := if_neg hk
        rw [e1', e2']; exact ⟨a1, a2⟩
theorem apx_zero {b : Nat → Rat} (hb : ∀ j, p2 (-10) ≤ b j ∧ b j ≤ p2 12) (k m : Nat) (hm : m ≤ 16) : Apx (0, 0) zero2 (sumP b k m) (sumM b k m) := by
  obtain ⟨z1, z2, z3, z10, z12, z16, p12, p24, b40, l10⟩ := c10
  obtain ⟨a1, a2, a3, a4⟩ := sum_ok hb k m
  have h0 := ap_exact (x := (0, 0)) fC0.1 (M := 1 / 1024) (by rw [cv0]; decide +kernel) z1 z2
  rw [cv0] at h0
  have i16 : (m : Rat) ≤ 16 := by exact_mod_cast hm
  have j1 := Rat.mul_le_mul_of_nonneg_right i16 p24
  have j2 := Rat.mul_le_mul_of_nonneg_right i16 (show 0 ≤ sumM b k m by grind)
  exact h0.mono a3 a1 (by grind) (by grind)
theorem prod_ap {F : List C2} {b : Nat → Rat} (hb : ∀ j, p2 (-10) ≤ b j ∧ b j ≤ p2 12) (hf : ∀ j, fC (F.getD j (0, 0)) ∧ N (cv (F.getD j (0, 0))) ≤ b j) (h1 : 1 ≤ F.length) {m : Nat} (hm : F.length ≤ m) (hm16 : m ≤ 16) (k : Nat) :
    Apx ((prodF F F).getD k (0, 0)) (sumQ (fun j => cv (F.getD j (0, 0))) k m) (sumP b k m) (sumM b k m) := by
  have hz : ∀ i, F.length ≤ i → (fun j => cv (F.getD j (0, 0))) i = zero2 := fun i hi => by show cv (F.getD i (0, 0)) = _; rw [getD_over hi, cv0]
  rw [sum_last hz m hm]
  by_cases hk : k < F.length + F.length - 1
  · have e : (prodF F F).getD k (0, 0) = accF F F k F.length := by
      simp only [prodF, List.getD, List.getElem?_map, List.getElem?_range hk, Option.map_some, Option.getD_some]
    rw [e]
    have a := acc_ap hb hf (by omega) k F.length (Nat.le_refl _)
    obtain ⟨m1, m2⟩ := sum_mono hb k F.length m hm
    have z := apx_zero hb k m hm16
    exact a.mono m2 m1 z.p z.h
  · have e : (prodF F F).getD k (0, 0) = (0, 0) := getD_over (by rw [prodF_length]; omega)
    rw [e, sum_over hz (by omega) F.length (Nat.le_refl _)]
    exact apx_zero hb k m hm16
/-- A term's value, and its bounds. -/
def sqV (t : Nat → Q2) (n k : Nat) : Q2 := if n % 2 = 1 then -(sumQ (fun j => t (0 + 2 * j)) k 3 - (if k = 0 then zero2 else sumQ (fun j => t (1 + 2 * j)) (k - 1) 3)) else sumQ (fun j => t (0 + 2 * j)) k 3 - (if k = 0 then zero2 else sumQ (fun j => t (1 + 2 * j)) (k - 1) 3)
def sqM (b : Nat → Rat) (k : Nat) : Rat := sumM (fun j => b (0 + 2 * j)) k 3 + (if k = 0 then 1 / 1024 else sumM (fun j => b (1 + 2 * j)) (k - 1) 3)
def sqP (b : Nat → Rat) (k : Nat) : Rat := sumP (fun j => b (0 + 2 * j)) k 3 + (if k = 0 then 0 else sumP (fun j => b (1 + 2 * j)) (k - 1) 3) + sqM b k
theorem part_ok {P : List C2} {n : Nat} (hn : P.length = n + 1) (h1 : 1 ≤ n) (h4 : n ≤ 4) {b : Nat → Rat} (hf : ∀ j, fC (P.getD j (0, 0)) ∧ N (cv (P.getD j (0, 0))) ≤ b j) {a : Nat} (ha : a ≤ 1) :
    (∀ j, fC ((trimF (evF P a)).getD j (0, 0)) ∧ N (cv ((trimF (evF P a)).getD j (0, 0))) ≤ b (a + 2 * j)) ∧ (∀ j, cv ((trimF (evF P a)).getD j (0, 0)) = cv (P.getD (a + 2 * j) (0, 0))) ∧ 1 ≤ (trimF (evF P a)).length ∧ (trimF (evF P a)).length ≤ 3 := by
  have he := fun j => ev_get P a j ha
  have hg := fun j => trim_get (evF P a) (fun j => by rw [he]; exact (hf _).1) j
  refine ⟨fun j => ⟨(hg j).1, by rw [(hg j).2, he]; exact (hf _).2⟩, fun j => by rw [(hg j).2, he], ?_⟩
  rw [trimF_length]
  have l := evF_length P a
  have t1 := trimN_pos (evF P a) (n := (evF P a).length) (by omega)
  have t2 := trimN_le (evF P a) (evF P a).length
  omega
theorem sq_ap {P : List C2} {n : Nat} (hn : P.length = n + 1) (h1 : 1 ≤ n) (h4 : n ≤ 4) {b : Nat → Rat} (hb : ∀ j, p2 (-10) ≤ b j ∧ b j ≤ p2 12) (hf : ∀ j, fC (P.getD j (0, 0)) ∧ N (cv (P.getD j (0, 0))) ≤ b j) (hsm : ∀ k, sqM b k ≤ p2 40) (k : Nat) :
    Apx (sqT P k) (sqV (fun j => cv (P.getD j (0, 0))) n k) (sqP b k) (sqM b k) := by
  obtain ⟨z1, z2, z3, z10, z12, z16, p12, p24, b40, l10⟩ := c10
  obtain ⟨a1, a2, a3, a4⟩ := part_ok hn h1 h4 hf (a := 0) (by omega)
  obtain ⟨c1, c2, c3, c4⟩ := part_ok hn h1 h4 hf (a := 1) (by omega)
  have hb0 : ∀ j, p2 (-10) ≤ (fun j => b (0 + 2 * j)) j ∧ (fun j => b (0 + 2 * j)) j ≤ p2 12 := fun j => hb _
  have hb1 : ∀ j, p2 (-10) ≤ (fun j => b (1 + 2 * j)) j ∧ (fun j => b (1 + 2 * j)) j ≤ p2 12 := fun j => hb _
  have pe := prod_ap hb0 a1 a3 a4 (by omega) k
  rw [show (fun j => cv ((trimF (evF P 0)).getD j (0, 0))) = (fun j => cv (P.getD (0 + 2 * j) (0, 0))) from funext a2] at pe
  have po : Apx ((ooF P).getD k (0, 0)) (if k = 0 then zero2 else sumQ (fun j => cv (P.getD (1 + 2 * j) (0, 0))) (k - 1) 3) (if k = 0 then 0 else sumP (fun j => b (1 + 2 * j)) (k - 1) 3) (if k = 0 then 1 / 1024 else sumM (fun j => b (1 + 2 * j)) (k - 1) 3) := by
    by_cases hk : k = 0
    · subst hk
      have h0 := ap_exact (x := (0, 0)) fC0.1 (M := 1 / 1024) (by rw [cv0]; decide +kernel) z1 z2
      rw [cv0] at h0
      exact h0
    · obtain ⟨j, rfl⟩ : ∃ j, k = j + 1 := ⟨k - 1, by omega⟩
      rw [if_neg hk, if_neg hk, if_neg hk]
      have h0 := prod_ap hb1 c1 c3 c4 (by omega) j
      rw [show (fun j => cv ((trimF (evF P 1)).getD j (0, 0))) = (fun j => cv (P.getD (1 + 2 * j) (0, 0))) from funext c2] at h0
      exact h0
  have m3 : sumM (fun j => b (0 + 2 * j)) k 3 + (if k = 0 then 1 / 1024 else sumM (fun j => b (1 + 2 * j)) (k - 1) 3) ≤ p2 40 := hsm k
  have q1 := sum_ok hb0 k 3
  have hp4 : sumP (fun j => b (0 + 2 * j)) k 3 ≤ 4 * sumM (fun j => b (0 + 2 * j)) k 3 := by have := q1.2.2.2; rw [show (((3 : Nat) : Rat) + 1) = 4 by decide +kernel] at this; exact this
  have hp5 : (if k = 0 then 0 else sumP (fun j => b (1 + 2 * j)) (k - 1) 3) ≤ 4 * (if k = 0 then 1 / 1024 else sumM (fun j => b (1 + 2 * j)) (k - 1) 3) := by
    split
    · decide +kernel
    · have := (sum_ok hb1 (k - 1) 3).2.2.2; rw [show (((3 : Nat) : Rat) + 1) = 4 by decide +kernel] at this; exact this
  have s : Apx (subC ((eeF P).getD k (0, 0)) ((ooF P).getD k (0, 0))) _ _ _ := pe.sub po (by have := pe.l; have := po.l; have := ud_ok.2.2.2.2.2.1; grind) m3
  by_cases ho : n % 2 = 1
  · have e1' : sqT P k = scaleC (subC ((eeF P).getD k (0, 0)) ((ooF P).getD k (0, 0))) (nrm .f32 3212836864) := if_pos (by rw [hn]; omega)
    have e2' : sqV (fun j => cv (P.getD j (0, 0))) n k = -(sumQ (fun j => cv (P.getD (0 + 2 * j) (0, 0))) k 3 - (if k = 0 then zero2 else sumQ (fun j => cv (P.getD (1 + 2 * j) (0, 0))) (k - 1) 3)) := if_pos ho
    rw [e1', e2']
    obtain ⟨f, v⟩ := scale_neg s.f (by
      have := s.cvN.2
      have t : p2 40 + p2 40 ≤ p2 60 := by rw [p2_41]; exact p2_mono (by decide)
      have := s.h
      grind)
    refine ⟨f, ?_, by rw [N_neg]; exact s.m, s.p, s.l, s.h⟩
    rw [v]
    have e3 : ∀ a c : Q2, -a - -c = -(a - c) := fun a c => by refine q2e ?_ ?_ <;> (simp; grind)
    rw [e3, N_neg]
    exact s.e
  · have e1' : sqT P k = subC ((eeF P).getD k (0, 0)) ((ooF P).getD k (0, 0)) := if_neg (by rw [hn]; omega)
    have e2' : sqV (fun j => cv (P.getD j (0, 0))) n k = sumQ (fun j => cv (P.getD (0 + 2 * j) (0, 0))) k 3 - (if k = 0 then zero2 else sumQ (fun j => cv (P.getD (1 + 2 * j) (0, 0))) (k - 1) 3) := if_neg ho
    rw [e1', e2']
    exact s
/-- Nothing is too great for the products. -/
theorem safe_prod {F : List C2} (hf : ∀ j, fC (F.getD j (0, 0)) ∧ N (cv (F.getD j (0, 0))) ≤ p2 12) : safeProd F F := fun k i _ _ _ => by
  have z := c10
  have t := N_mul (cv (F.getD i (0, 0))) (cv (F.getD (k - i) (0, 0)))
  have t2 := mul_le (hf i).2 (hf (k - i)).2 (N_nonneg _) z.2.2.2.2.2.2.1
  rw [z.2.2.2.2.1] at t2
  exact (mulC_near (hf i).1 (hf (k - i)).1 (lt_of_p2 (hf i).2 (by decide)) (lt_of_p2 (hf (k - i)).2 (by decide)) (lt_of_p2 (Rat.le_trans t t2) (by decide))).1
theorem sq_safe {P : List C2} {n : Nat} (hn : P.length = n + 1) (h1 : 1 ≤ n) (h4 : n ≤ 4) (hf : ∀ j, fC (P.getD j (0, 0)) ∧ N (cv (P.getD j (0, 0))) ≤ p2 12) : safeSquare P := by
  obtain ⟨a1, _⟩ := part_ok hn h1 h4 (b := fun _ => p2 12) hf (a := 0) (by omega)
  obtain ⟨c1, _⟩ := part_ok hn h1 h4 (b := fun _ => p2 12) hf (a := 1) (by omega)
  exact ⟨safe_prod a1, safe_prod c1⟩
theorem sq_get {P : List C2} {k : Nat} (h : k < (squareF P).length) : (squareF P).getD k (0, 0) = sqT P k := by
  unfold squareF at *
  rw [List.length_map, List.length_range] at h
  simp only [List.getD, List.getElem?_map, List.getElem?_range h, Option.map_some, Option.getD_some]
end Go.Proofs.YtfnhddaofllniaaGreat

/- Squared roots, plainly: the squared polynomial of a drawn one is near the product of both sides. Conditions: up to four drawn roots. -/
namespace Go.Proofs.YtfnhddaofllniaaGreat
open Go
set_option linter.unusedSimpArgs false
set_option linter.unusedVariables false

/-- The bounds of the drawn polynomials' terms. -/
def bq (n j : Nat) : Rat := if j ≤ n then ((bt n j : Nat) : Rat) * p2 (3 * ((j : Int) - (n : Int))) + 1 / 1024 else 1 / 1024
theorem bq_tab : ∀ n, n < 5 → ∀ j, j < 5 → p2 (-10) ≤ bq n j ∧ bq n j ≤ p2 12 := by decide +kernel
theorem bq_ok {n : Nat} (h4 : n ≤ 4) (j : Nat) : p2 (-10) ≤ bq n j ∧ bq n j ≤ p2 12 := by
  by_cases hj : j < 5
  · exact bq_tab n (by omega) j hj
  · have : bq n j = 1 / 1024 := if_neg (by omega)
    rw [this]; decide +kernel
theorem sqM_le {b : Nat → Rat} (hb : ∀ j, p2 (-10) ≤ b j ∧ b j ≤ p2 12) (k : Nat) : sqM b k ≤ p2 40 := by
  have a := (sum_ok (b := fun j => b (0 + 2 * j)) (fun j => hb _) k 3).2.1
  have c := (sum_ok (b := fun j => b (1 + 2 * j)) (fun j => hb _) (k - 1) 3).2.1
  have e : 1 / 1024 + ((3 : Nat) : Rat) * p2 24 + (1 / 1024 + ((3 : Nat) : Rat) * p2 24) ≤ p2 40 ∧ (1 : Rat) / 1024 ≤ 1 / 1024 + ((3 : Nat) : Rat) * p2 24 := by decide +kernel
  obtain ⟨e1', e2'⟩ := e
  generalize 1 / 1024 + ((3 : Nat) : Rat) * p2 24 = x at *
  unfold sqM
  split <;> grind
def msT (k : Nat) : Rat := match k with | 0 => 507 | 1 => 3167 | 2 => 1700 | 3 => 141 | _ => 2
def psT (k : Nat) : Rat := match k with | 0 => 1519 | 1 => 10170 | 2 => 6415 | 3 => 533 | _ => 4
def MH (k : Nat) : Rat := match k with | 0 => 14801 | 1 => 7147 | 2 => 1990 | 3 => 145 | _ => 2
def PH (k : Nat) : Rat := match k with | 0 => 113508 | 1 => 41447 | 2 => 10075 | 3 => 690 | _ => 4
theorem sq_tab : ∀ n, n < 5 → 1 ≤ n → ∀ k, k < 5 → sqM (bq n) k ≤ msT k ∧ sqP (bq n) k ≤ psT k := by decide +kernel
theorem h_tab : ∀ k, k < 4 → MH k = MH (k + 1) * 2 + msT k ∧ PH k = PH (k + 1) * 2 + MH (k + 1) * 2 + psT k + (MH (k + 1) * 2 + msT k) ∧ p2 (-20) ≤ MH (k + 1) * 2 ∧ PH (k + 1) * 2 + MH (k + 1) * 2 ≤ 40 * (MH (k + 1) * 2) ∧ MH (k + 1) * 2 ≤ p2 40 ∧
    PH (k + 1) * 2 + MH (k + 1) * 2 + psT k + (MH (k + 1) * 2 + msT k) ≤ 40 * (MH (k + 1) * 2 + msT k) ∧ MH (k + 1) * 2 + msT k ≤ p2 40 := by decide +kernel
theorem t_tab : ∀ k, k < 5 → psT k ≤ 40 * msT k ∧ msT k ≤ p2 40 ∧ psT k ≤ PH k ∧ msT k ≤ MH k ∧ PH k ≤ 40 * MH k ∧ MH k ≤ p2 40 := by decide +kernel
/-- Horner's rule on values. -/
def hV (V : Nat → Q2) (Z : Q2) : Nat → Q2 → Q2 | 0, a => a | k + 1, a => hV V Z k (a * Z + V k)
theorem horner_ap {F : List C2} {z : C2} {V : Nat → Q2} (hz : fC z) (hn : N (cv z) ≤ 2) (k : Nat) (hk : k ≤ 4) : ∀ (a : C2) (A : Q2), Apx a A (PH k) (MH k) → (∀ i, i < k → Apx (F.getD i (0, 0)) (V i) (psT i) (msT i)) →
    safeH F z k a ∧ Apx (horner F z k a) (hV V (cv z) k A) (PH 0) (MH 0) := by
  induction k with
  | zero => exact fun a A ha _ => ⟨trivial, ha⟩
  | succ k ih =>
    intro a A ha hF
    obtain ⟨t1, t2, t3, t4, t5, t6, t7⟩ := h_tab k (by omega)
    obtain ⟨fit, mu⟩ := ha.mul hz hn (by decide +kernel) (by decide +kernel) t3 t4 t5
    have ad := mu.add (hF k (by omega)) t6 t7
    rw [← t2, ← t1] at ad
    obtain ⟨s1, s2⟩ := ih (by omega) (addC (mulC a z) (F.getD k (0, 0))) _ ad (fun i hi => hF i (by omega))
    exact ⟨⟨fit, s1⟩, s2⟩
/-- The products of both sides, exactly. -/
theorem sides {t : Nat → Q2} {n : Nat} (h1 : 1 ≤ n) (h4 : n ≤ 4) (ht : t n = one2) (hz : ∀ j, n < j → t j = zero2) (z : Q2) :
    hV (sqV t n) (z * z) n (sqV t n n) = (if n % 2 = 1 then -(hV t z n (t n) * hV t (-z) n (t n)) else hV t z n (t n) * hV t (-z) n (t n)) ∧ sqV t n n = one2 := by
  rcases (by omega : n = 1 ∨ n = 2 ∨ n = 3 ∨ n = 4) with rfl | rfl | rfl | rfl
  · have P : hV t z 1 (t 1) * hV t (-z) 1 (t 1) = t 0 * t 0 - z * z * (one2 * one2) := by
      rw [ht]
      have h1 : hV t z 1 one2 = t 0 + z * one2 := by simp only [hV]; exact q2e (by simp [one2]; grind) (by simp [one2]; grind)
      have h2 : hV t (-z) 1 one2 = t 0 - z * one2 := by simp only [hV]; exact q2e (by simp [one2]; grind) (by simp [one2]; grind)
      rw [h1, h2, q_split, q_prod]
    rw [P]
    have z2 := hz 2 (by omega)
    have z3 := hz 3 (by omega)
    have z4 := hz 4 (by omega)
    have z5 := hz 5 (by omega)
    have z6 := hz 6 (by omega)
    have z7 := hz 7 (by omega)
    have z8 := hz 8 (by omega)
    rw [if_pos (by decide)]
    generalize z * z = w
    constructor
    · simp only [hV, sqV, sumQ]
      simp [ht, z2, z3, z4, z5, z6, z7, z8]
      generalize t 0 = c0
      exact q2e (by simp [zero2, one2]; try grind) (by simp [zero2, one2]; try grind)
    · simp only [sqV, sumQ]
      simp [ht, z2, z3, z4, z5, z6, z7, z8]
      generalize t 0 = c0
      exact q2e (by simp [zero2, one2]; try grind) (by simp [zero2, one2]; try grind)
  · have P : hV t z 2 (t 2) * hV t (-z) 2 (t 2) = (z * z + t 0) * (z * z + t 0) - z * z * (t 1 * t 1) := by
      rw [ht]
      have h1 : hV t z 2 one2 = (z * z + t 0) + z * t 1 := by simp only [hV]; exact q2e (by simp [one2]; grind) (by simp [one2]; grind)
      have h2 : hV t (-z) 2 one2 = (z * z + t 0) - z * t 1 := by simp only [hV]; exact q2e (by simp [one2]; grind) (by simp [one2]; grind)
      rw [h1, h2, q_split, q_prod]
    rw [P]
    have z3 := hz 3 (by omega)
    have z4 := hz 4 (by omega)
    have z5 := hz 5 (by omega)
    have z6 := hz 6 (by omega)
    have z7 := hz 7 (by omega)
    have z8 := hz 8 (by omega)
    rw [if_neg (by decide)]
    generalize z * z = w
    constructor
    · simp only [hV, sqV, sumQ]
      simp [ht, z3, z4, z5, z6, z7, z8]
      generalize t 0 = c0
      generalize t 1 = c1
      exact q2e (by simp [zero2, one2]; try grind) (by simp [zero2, one2]; try grind)
    · simp only [sqV, sumQ]
      simp [ht, z3, z4, z5, z6, z7, z8]
      generalize t 0 = c0
      generalize t 1 = c1
      exact q2e (by simp [zero2, one2]; try grind) (by simp [zero2, one2]; try grind)
  · have P : hV t z 3 (t 3) * hV t (-z) 3 (t 3) = (t 2 * (z * z) + t 0) * (t 2 * (z * z) + t 0) - z * z * ((z * z + t 1) * (z * z + t 1)) := by
      rw [ht]
      have h1 : hV t z 3 one2 = (t 2 * (z * z) + t 0) + z * (z * z + t 1) := by simp only [hV]; exact q2e (by simp [one2]; grind) (by simp [one2]; grind)
      have h2 : hV t (-z) 3 one2 = (t 2 * (z * z) + t 0) - z * (z * z + t 1) := by simp only [hV]; exact q2e (by simp [one2]; grind) (by simp [one2]; grind)
      rw [h1, h2, q_split, q_prod]
    rw [P]
    have z4 := hz 4 (by omega)
    have z5 := hz 5 (by omega)
    have z6 := hz 6 (by omega)
    have z7 := hz 7 (by omega)
    have z8 := hz 8 (by omega)
    rw [if_pos (by decide)]
    generalize z * z = w
    constructor
    · simp only [hV, sqV, sumQ]
      simp [ht, z4, z5, z6, z7, z8]
      generalize t 0 = c0
      generalize t 1 = c1
      generalize t 2 = c2
      exact q2e (by simp [zero2, one2]; try grind) (by simp [zero2, one2]; try grind)
    · simp only [sqV, sumQ]
      simp [ht, z4, z5, z6, z7, z8]
      generalize t 0 = c0
      generalize t 1 = c1
      generalize t 2 = c2
      exact q2e (by simp [zero2, one2]; try grind) (by simp [zero2, one2]; try grind)
  · have P : hV t z 4 (t 4) * hV t (-z) 4 (t 4) = ((z * z + t 2) * (z * z) + t 0) * ((z * z + t 2) * (z * z) + t 0) - z * z * ((t 3 * (z * z) + t 1) * (t 3 * (z * z) + t 1)) := by
      rw [ht]
      have h1 : hV t z 4 one2 = ((z * z + t 2) * (z * z) + t 0) + z * (t 3 * (z * z) + t 1) := by simp only [hV]; exact q2e (by simp [one2]; grind) (by simp [one2]; grind)
      have h2 : hV t (-z) 4 one2 = ((z * z + t 2) * (z * z) + t 0) - z * (t 3 * (z * z) + t 1) := by simp only [hV]; exact q2e (by simp [one2]; grind) (by simp [one2]; grind)
      rw [h1, h2, q_split, q_prod]
    rw [P]
    have z5 := hz 5 (by omega)
    have z6 := hz 6 (by omega)
    have z7 := hz 7 (by omega)
    have z8 := hz 8 (by omega)
    rw [if_neg (by decide)]
    generalize z * z = w
    constructor
    · simp only [hV, sqV, sumQ]
      simp [ht, z5, z6, z7, z8]
      generalize t 0 = c0
      generalize t 1 = c1
      generalize t 2 = c2
      generalize t 3 = c3
      exact q2e (by simp [zero2, one2]; try grind) (by simp [zero2, one2]; try grind)
    · simp only [sqV, sumQ]
      simp [ht, z5, z6, z7, z8]
      generalize t 0 = c0
      generalize t 1 = c1
      generalize t 2 = c2
      generalize t 3 = c3
      exact q2e (by simp [zero2, one2]; try grind) (by simp [zero2, one2]; try grind)
theorem sq_len {P : List C2} {n : Nat} (hn : P.length = n + 1) (h1 : 1 ≤ n) (nz : zeroC (P.getD n (0, 0)) = false) : (squareF P).length = n + 1 := by
  have e0 := evF_length P 0
  have e1' := evF_length P 1
  have b0 := trimN_le (evF P 0) (evF P 0).length
  have b1 := trimN_le (evF P 1) (evF P 1).length
  have c0 := trimN_pos (evF P 0) (n := (evF P 0).length) (by omega)
  have c1 := trimN_pos (evF P 1) (n := (evF P 1).length) (by omega)
  have full : ∀ a, a ≤ 1 → a % 2 = n % 2 → trimN (evF P a) (evF P a).length = (evF P a).length := by
    intro a ha hp
    have ea := evF_length P a
    have i : a + 2 * ((evF P a).length - 1) = n := by omega
    by_cases hs : (evF P a).length ≤ 1
    · exact trimN_small hs
    · exact trimN_stop (by omega) (by rw [ev_get P a _ ha, i]; exact nz)
  have l : (squareF P).length = max (eeF P).length (ooF P).length := by simp [squareF]
  have l1 : (eeF P).length = 2 * trimN (evF P 0) (evF P 0).length - 1 := by unfold eeF; rw [prodF_length, trimF_length]; omega
  have l2 : (ooF P).length = 2 * trimN (evF P 1) (evF P 1).length := by unfold ooF; rw [List.length_cons, prodF_length, trimF_length]; omega
  rcases (by omega : n % 2 = 0 ∨ n % 2 = 1) with hp | hp
  · have f := full 0 (by omega) (by omega)
    omega
  · have f := full 1 (by omega) (by omega)
    omega
theorem N_one : N one2 = 1 := by decide +kernel
theorem hV_cq (X : Nat → Int × Int) {n : Nat} (h1 : 1 ≤ n) (h4 : n ≤ 4) (t : Nat → Q2) (ht : ∀ j, j ≤ n → t j = cq X n j) (z : Q2) : hV t z n (t n) = (VV (gq X z) n).1 := by
  rcases (by omega : n = 1 ∨ n = 2 ∨ n = 3 ∨ n = 4) with rfl | rfl | rfl | rfl
  · rw [← (glev1 X z).1]; simp only [hV, v1, ht 0 (by omega), ht 1 (by omega)]
  · rw [← (glev2 X z).1]; simp only [hV, v2, ht 0 (by omega), ht 1 (by omega), ht 2 (by omega)]
  · rw [← (glev3 X z).1]; simp only [hV, v3, ht 0 (by omega), ht 1 (by omega), ht 2 (by omega), ht 3 (by omega)]
  · rw [← (glev4 X z).1]; simp only [hV, v4, ht 0 (by omega), ht 1 (by omega), ht 2 (by omega), ht 3 (by omega), ht 4 (by omega)]
/-- The exact value is the product of the distances from the roots. -/
theorem ez_val (X : Nat → Int × Int) (Z : Int × Int) (m : Nat) : (⟨((ez X m Z m).1 : Rat) * p2 (-((3 * m : Nat) : Int)), ((ez X m Z m).2 : Rat) * p2 (-((3 * m : Nat) : Int))⟩ : Q2) = (VV (gq X ⟨(Z.1 : Rat) * p2 (-3), (Z.2 : Rat) * p2 (-3)⟩) m).1 := by
  induction m with
  | zero =>
    have e : ez X 0 Z 0 = (1, 0) := cz_top X 0
    rw [e]
    show (⟨((1 : Int) : Rat) * p2 (-((3 * 0 : Nat) : Int)), ((0 : Int) : Rat) * p2 (-((3 * 0 : Nat) : Int))⟩ : Q2) = one2
    refine q2e ?_ ?_ <;> decide +kernel
  | succ m ih =>
    rw [ez_mul]
    show _ = gq X ⟨(Z.1 : Rat) * p2 (-3), (Z.2 : Rat) * p2 (-3)⟩ m * (VV (gq X ⟨(Z.1 : Rat) * p2 (-3), (Z.2 : Rat) * p2 (-3)⟩) m).1
    rw [← ih]
    have hp : p2 (-((3 * (m + 1) : Nat) : Int)) = p2 (-3) * p2 (-((3 * m : Nat) : Int)) := by rw [← p2_add]; congr 1; omega
    rw [hp]
    unfold gq rq
    generalize p2 (-((3 * m : Nat) : Int)) = e at *
    generalize p2 (-3) = f at *
    refine q2e ?_ ?_ <;> (simp [zs, zm, Rat.intCast_sub, Rat.intCast_mul, Rat.intCast_add]; grind)
section
variable {ls : List C2} {X : Nat → Int × Int}
/-- The drawn polynomial's terms. -/
theorem DX.terms (h : DX ls X) (h4 : ls.length ≤ 4) (j : Nat) : fC ((rootsL (ls.map nc) ls.length).getD j (0, 0)) ∧ N (cv ((rootsL (ls.map nc) ls.length).getD j (0, 0))) ≤ bq ls.length j ∧
    cv ((rootsL (ls.map nc) ls.length).getD j (0, 0)) = (if j ≤ ls.length then cq X ls.length j else zero2) := by
  by_cases hj : j ≤ ls.length
  · have tk := h.tk h4 j
    have v : cv ((rootsL (ls.map nc) ls.length).getD j (0, 0)) = cq X ls.length j := by
      rw [tk.v hj]
      refine q2e ?_ ?_ <;> (simp [sc]; try grind)
    refine ⟨(h.fF h4 j).1, ?_, by rw [if_pos hj]; exact v⟩
    rw [v]
    have c : N (cq X ls.length j) = ((nz (cz X ls.length j) : Nat) : Rat) * p2 (3 * ((j : Int) - (ls.length : Int))) := nS_pure _ (Rat.le_of_lt (p2_pos _)) (by unfold nz; omega)
    have d := cz_bt (fun i hi => nb_ok h h4 hi) ls.length j (Nat.le_refl _)
    have e : ((nz (cz X ls.length j) : Nat) : Rat) * p2 (3 * ((j : Int) - (ls.length : Int))) ≤ ((bt ls.length j : Nat) : Rat) * p2 (3 * ((j : Int) - (ls.length : Int))) := Rat.mul_le_mul_of_nonneg_right (by exact_mod_cast d) (Rat.le_of_lt (p2_pos _))
    have f : bq ls.length j = ((bt ls.length j : Nat) : Rat) * p2 (3 * ((j : Int) - (ls.length : Int))) + 1 / 1024 := if_pos hj
    rw [c, f]
    grind
  · have e : (rootsL (ls.map nc) ls.length).getD j (0, 0) = (0, 0) := getD_over (by rw [rootsL_length]; omega)
    rw [e, if_neg hj, cv0]
    refine ⟨fC0.1, ?_, rfl⟩
    have : bq ls.length j = 1 / 1024 := if_neg hj
    rw [this]; decide +kernel
/-- The squared polynomial: it is told, and its value is near. -/
theorem DX.square (h : DX ls X) (h1 : 1 ≤ ls.length) (h4 : ls.length ≤ 4) :
    safeSquare (rootsL (ls.map nc) ls.length) ∧ (squareF (rootsL (ls.map nc) ls.length)).length = ls.length + 1 ∧ polyF (squareF (rootsL (ls.map nc) ls.length)) = (squareF (rootsL (ls.map nc) ls.length), true) ∧ rootedF (squareF (rootsL (ls.map nc) ls.length)) = true ∧
    ∀ k, k ≤ ls.length → Apx ((squareF (rootsL (ls.map nc) ls.length)).getD k (0, 0)) (sqV (fun j => cv ((rootsL (ls.map nc) ls.length).getD j (0, 0))) ls.length k) (psT k) (msT k) := by
  have hn : (rootsL (ls.map nc) ls.length).length = ls.length + 1 := rootsL_length _ _
  have ht := fun j => h.terms h4 j
  have htop : cv ((rootsL (ls.map nc) ls.length).getD ls.length (0, 0)) = one2 := by rw [(ht _).2.2, if_pos (Nat.le_refl _), cq_top]
  generalize rootsL (ls.map nc) ls.length = P at *
  generalize ls.length = n at *
  have hf : ∀ j, fC (P.getD j (0, 0)) ∧ N (cv (P.getD j (0, 0))) ≤ bq n j := fun j => ⟨(ht j).1, (ht j).2.1⟩
  have ap := fun k => sq_ap hn h1 h4 (bq_ok h4) hf (sqM_le (bq_ok h4)) k
  have ap2 : ∀ k, k < 5 → Apx (sqT P k) (sqV (fun j => cv (P.getD j (0, 0))) n k) (psT k) (msT k) := fun k hk => by
    obtain ⟨a1, a2⟩ := sq_tab n (by omega) h1 k hk
    obtain ⟨t1, t2, _⟩ := t_tab k hk
    exact (ap k).mono a2 a1 t1 t2
  have nz : zeroC (P.getD n (0, 0)) = false := not_zeroC (ht n).1 (by rw [htop]; decide)
  have hlen := sq_len hn h1 nz
  have hz := sides h1 h4 htop (fun j hj => by show cv (P.getD j (0, 0)) = _; rw [(ht j).2.2, if_neg (by omega)]) zero2
  have top := ap2 n (by omega)
  rw [hz.2] at top
  have ntop : zeroC ((squareF P).getD ((squareF P).length - 1) (0, 0)) = false := by
    rw [hlen, show n + 1 - 1 = n by omega, sq_get (by omega)]
    refine not_zeroC top.f (fun e => ?_)
    have e1' := top.e
    have e2 := re_le_N (cv (sqT P n) - one2)
    have e3 : (cv (sqT P n) - one2).re = -1 := by rw [re_sub, e]; decide +kernel
    rw [e3, show A (-1) = 1 by decide +kernel] at e2
    have t := (show ∀ k, k < 5 → 1 ≤ k → ud * psT k < 1 by decide +kernel) n (by omega) h1
    grind
  have hall : (squareF P).all finC = true := by
    rw [List.all_eq_true]
    intro x hx
    obtain ⟨i, hi, rfl⟩ := List.getElem_of_mem hx
    have g := sq_get hi
    rw [List.getD, List.getElem?_eq_getElem hi] at g
    rw [show (squareF P)[i] = sqT P i from g]
    exact (fC_iff _).1 (ap i).f
  obtain ⟨v1', v2'⟩ := poly_of (F := squareF P) (by rw [hlen]; omega) hall ntop
  exact ⟨sq_safe hn h1 h4 (fun j => ⟨(hf j).1, Rat.le_trans (hf j).2 (bq_ok h4 j).2⟩), hlen, v2', by unfold rootedF; rw [v1']; simp; omega, fun k hk => by rw [sq_get (by omega)]; exact ap2 k (by omega)⟩
end
end Go.Proofs.YtfnhddaofllniaaGreat

/- Squared roots, plainly: the value of the squared polynomial is near the product of both sides. Conditions: up to four drawn roots, a point in quarters. -/
namespace Go.Proofs.YtfnhddaofllniaaGreat
open Go
set_option linter.unusedSimpArgs false
set_option linter.unusedVariables false

theorem gtr_false {k : FloatKind} {x y : Nat} (hx : fN k x = true) (hy : fN k y = true) (h : vN k x ≤ vN k y) : fcmp .gtr k x y = false := by
  obtain ⟨a, b, e, h1, h2, h3⟩ := order_num hx hy
  unfold fcmp
  rw [h3]
  rw [h1, h2] at h
  have h4 := lcancel_le (p2_pos e) h
  have h5 : a ≤ b := by exact_mod_cast h4
  have : compare a b ≠ .gt := by
    intro hc; have := Int.compare_eq_gt.1 hc; omega
  cases hcmp : compare a b <;> simp_all
/-- The opposite number. -/
def turnC (z : C2) : C2 := (negF z.1, negF z.2)
theorem turnC_ok {z : C2} (h : fC z) : fC (turnC z) ∧ cv (turnC z) = -cv z := by
  obtain ⟨a, b⟩ := negF_ok h.1
  obtain ⟨c, d⟩ := negF_ok h.2
  exact ⟨⟨a, c⟩, q2e b d⟩
/-- The bound of what is missed: near numbers. -/
theorem near_ok {d v : C2} {V : Rat} (hd : fC d) (hv : fC v) (hV : N (cv v) = V) (hb : V ≤ p2 30) (hN : N (cv d) ≤ 85 / 10000 + V / 1048576) :
    fit1 (sqF (powerF d)) ∧ fit1 (sqF (powerF v)) ∧ fcmp .gtr .f64 (wd (longF d)) (fop .mul .f64 4576918229304087675 (fop .add .f64 4607182418800017408 (wd (longF v)))) = false := by
  have V0 : 0 ≤ V := by rw [← hV]; exact N_nonneg _
  have n1 : p2 (-40) ≤ 85 / 10000 + V / 1048576 := by
    have : p2 (-40) ≤ 85 / 10000 := by decide +kernel
    grind
  have n2 : 85 / 10000 + V / 1048576 ≤ p2 40 := by
    have : 85 / 10000 + p2 30 ≤ p2 40 := by decide +kernel
    grind
  obtain ⟨d1, d2, d3, d4⟩ := longF_le hd hN n1 n2
  have b30 : p2 30 ≤ p2 40 := p2_mono (by decide)
  obtain ⟨f1, f2, f3, f4⟩ := longF_le hv (by rw [hV]; exact Rat.le_trans hb b30) (p2_mono (by decide)) Rat.le_refl
  refine ⟨d1, f1, ?_⟩
  have low : V / 4 - p2 (-30) ≤ vN .f32 (longF v) := by
    by_cases hs : p2 (-38) ≤ V
    · have m2 : p2 (-40) ≤ V / 2 := by
        have : p2 (-40) ≤ p2 (-38) / 2 := by decide +kernel
        grind
      have m3 : V / 2 * (V / 2) ≤ sqN (cv v) := by
        have := sqN_ge (cv v)
        rw [hV] at this
        have := sqN_nonneg (cv v)
        grind
      have g := longF_ge (c := V / 2) hv (show N (cv v) ≤ V by rw [hV]; exact Rat.le_refl) (Rat.le_trans hb b30) m2 m3
      have c : (1 : Rat) / 2 ≤ 1 - p2 (-20) := by decide +kernel
      have := Rat.mul_le_mul_of_nonneg_left c (show 0 ≤ V / 2 by grind)
      have := p2_pos (-30)
      grind
    · have : p2 (-38) ≤ p2 (-30) := p2_mono (by decide)
      grind
  have b1 : p2 40 * (1 + p2 (-20)) ≤ p2 41 := by decide +kernel
  have b2 : vN .f32 (longF v) ≤ p2 41 := Rat.le_trans f4 b1
  have b3 : vN .f32 (longF d) ≤ p2 41 := by
    have c : 0 ≤ 1 + p2 (-20) := by decide +kernel
    exact Rat.le_trans d4 (Rat.le_trans (Rat.mul_le_mul_of_nonneg_right n2 c) b1)
  obtain ⟨w1, w2⟩ := wd_ok f2 (by rw [A_of_nonneg f3]; exact lt_of_p2 b2 (by decide))
  obtain ⟨y1, y2⟩ := wd_ok d2 (by rw [A_of_nonneg d3]; exact lt_of_p2 b3 (by decide))
  have o1 : fN .f64 4607182418800017408 = true := by decide +kernel
  have o2 : vN .f64 4607182418800017408 = 1 := by decide +kernel
  have c1 : fN .f64 4576918229304087675 = true := by decide +kernel
  have c2 : 99 / 10000 ≤ vN .f64 4576918229304087675 ∧ vN .f64 4576918229304087675 ≤ 1 := by decide +kernel
  have sb : A (vN .f64 4607182418800017408 + vN .f64 (wd (longF v))) ≤ p2 42 := by
    rw [o2, w2, A_of_nonneg (by grind)]
    have : 1 + p2 41 ≤ p2 42 := by decide +kernel
    grind
  have R1 := fop_add_res (k := .f64) o1 w1 (by show _ < p2 1023; exact lt_of_p2 sb (by decide))
  rw [o2, w2] at R1 sb
  have s0 : 0 ≤ 1 + vN .f32 (longF v) := by grind
  rw [A_of_nonneg s0] at sb
  have e1 := R1.2.1
  rw [A_of_nonneg s0] at e1
  generalize fop .add .f64 4607182418800017408 (wd (longF v)) = s at *
  have e3 : A (vN .f64 s - (1 + vN .f32 (longF v))) ≤ p2 (-53) * (1 + vN .f32 (longF v)) + p2 (-1075) := e1
  obtain ⟨e4, e5⟩ := A_le.1 e3
  have k53 : p2 (-53) ≤ 1 / 1048576 ∧ p2 (-1075) ≤ 1 / 1048576 := by decide +kernel
  have m0 : p2 (-53) * (1 + vN .f32 (longF v)) ≤ 1 / 1048576 * (1 + vN .f32 (longF v)) := Rat.mul_le_mul_of_nonneg_right k53.1 s0
  have s1 : 999 / 1000 * (1 + vN .f32 (longF v)) ≤ vN .f64 s := by grind
  have s2 : vN .f64 s ≤ p2 43 := by
    have : 2 * p2 42 ≤ p2 43 := by decide +kernel
    grind
  have sp : 0 ≤ vN .f64 s := by grind
  have t2 := mul_le c2.2 s2 sp (by decide +kernel)
  have t1 := Rat.mul_le_mul_of_nonneg_right c2.1 sp
  have t0 : 0 ≤ vN .f64 4576918229304087675 * vN .f64 s := Rat.mul_nonneg (by grind) sp
  have R2 := fop_mul_res (k := .f64) c1 R1.1 (by
    show _ < p2 1023
    rw [A_of_nonneg t0]
    exact lt_of_p2 (a := 43) (by grind) (by decide))
  have e6 := R2.2.1
  rw [A_of_nonneg t0] at e6
  have e7 : A (vN .f64 (fop .mul .f64 4576918229304087675 s) - vN .f64 4576918229304087675 * vN .f64 s) ≤ p2 (-53) * (vN .f64 4576918229304087675 * vN .f64 s) + p2 (-1075) := e6
  obtain ⟨e8, e9⟩ := A_le.1 e7
  have m1 : p2 (-53) * (vN .f64 4576918229304087675 * vN .f64 s) ≤ 1 / 1048576 * (vN .f64 4576918229304087675 * vN .f64 s) := Rat.mul_le_mul_of_nonneg_right k53.1 t0
  refine gtr_false y1 R2.1 ?_
  rw [y2]
  have d5 : vN .f32 (longF d) ≤ (85 / 10000 + V / 1048576) * (1001 / 1000) := by
    have c : 1 + p2 (-20) ≤ 1001 / 1000 := by decide +kernel
    exact Rat.le_trans d4 (Rat.mul_le_mul_of_nonneg_left c (by grind))
  have k30 : p2 (-30) ≤ 1 / 1048576 := by decide +kernel
  grind
theorem ln1 {a b c d e x w : Rat} (h1 : a ≤ b + c) (h2 : b ≤ d) (h3 : d ≤ 677 / 100000) (h4 : c ≤ x + e) (h5 : x ≤ 1 / 16000000 * w) (h6 : e ≤ 1 / 1000000000) : a ≤ 678 / 100000 + 1 / 16000000 * w := by grind
theorem ln2 {w m : Rat} (h1 : w ≤ m) (h2 : m = 14801) : 678 / 100000 + 1 / 16000000 * w ≤ 30000 := by grind
theorem ln3 {u w c x e m b : Rat} (h1 : u ≤ w + c) (h4 : c ≤ x + e) (h5 : x ≤ 1 / 16000000 * w) (h6 : e ≤ 1 / 1000000000) (h7 : w ≤ m) (h8 : m = 14801) (h9 : 30000 ≤ b) : u ≤ b := by grind
theorem ln4 {d a s x e y w u c : Rat} (h1 : d ≤ a + s) (h2 : s ≤ x + e) (h3 : x ≤ 1 / 16000000 * a) (h4 : e ≤ 1 / 1000000000) (h5 : a ≤ 678 / 100000 + 1 / 16000000 * w) (h6 : w ≤ u + c) (h7 : c ≤ y + e) (h8 : y ≤ 1 / 16000000 * w) (h9 : 0 ≤ u) : d ≤ 85 / 10000 + u / 1048576 := by grind
theorem last_near {w uv : C2} {W : Q2} (hw : fC w) (he : N (cv w - W) ≤ ud * PH 0) (hm : N W ≤ MH 0) (hu : fC uv) (hn : N (cv uv - W) ≤ u1 * N W + e1) :
    fit1 (sqF (powerF (subC w uv))) ∧ fit1 (sqF (powerF uv)) ∧ fcmp .gtr .f64 (wd (longF (subC w uv))) (fop .mul .f64 4576918229304087675 (fop .add .f64 4607182418800017408 (wd (longF uv)))) = false := by
  have k1 : ud * PH 0 ≤ 677 / 100000 ∧ MH 0 = 14801 ∧ u1 ≤ 1 / 16000000 ∧ 0 ≤ u1 ∧ e1 ≤ 1 / 1000000000 ∧ 0 ≤ e1 ∧ (30000 : Rat) ≤ p2 30 ∧ p2 30 ≤ p2 100 := by decide +kernel
  obtain ⟨k1, k2, k3, k4, k5, k6, k7, k8⟩ := k1
  have W0 := N_nonneg W
  have uW : u1 * N W ≤ 1 / 16000000 * N W := Rat.mul_le_mul_of_nonneg_right k3 W0
  have t1 := N_tri (cv uv) W
  have t2 := N_tri W (cv uv)
  rw [N_comm W (cv uv)] at t2
  have hD : N (cv w - cv uv) ≤ 678 / 100000 + 1 / 16000000 * N W := by
    have a := N_sub (cv w - W) (cv uv - W)
    have e : cv w - W - (cv uv - W) = cv w - cv uv := by refine q2e ?_ ?_ <;> (simp; grind)
    rw [e] at a
    exact ln1 a he k1 hn uW k5
  have nr := subC_near hw hu (lt_of_p2 (a := 100) (Rat.le_trans hD (Rat.le_trans (ln2 hm k2) (Rat.le_trans k7 k8))) (by decide))
  refine near_ok nr.1 hu rfl (ln3 t1 hn uW k5 hm k2 k7) ?_
  have t3 := N_tri (cv (subC w uv)) (cv w - cv uv)
  have n3 := nr.2
  have uD : u1 * N (cv w - cv uv) ≤ 1 / 16000000 * N (cv w - cv uv) := Rat.mul_le_mul_of_nonneg_right k3 (N_nonneg _)
  exact ln4 t3 n3 uD k5 hD t2 hn uW (N_nonneg _)
section
variable {ls : List C2} {X : Nat → Int × Int}
theorem Gr.val {w : C2} {a b : Int} {j : Nat} (h : Gr w a b j) : cv w = ⟨(a : Rat) * p2 (-(j : Int)), (b : Rat) * p2 (-(j : Int))⟩ := h.2
/-- The value of the squared polynomial at the square is near the product of both sides. -/
theorem DX.near_sides (h : DX ls X) (h1 : 1 ≤ ls.length) (h4 : ls.length ≤ 4) {z : C2} {x y : Int} (hx : x.natAbs ≤ 4) (hy : y.natAbs ≤ 4) (hz : Gr z (2 * x) (2 * y) 3) :
    fC (turnC z) ∧ fit2 (timesF z z) ∧ finC (mulC z z) = true ∧ safeN (squareF (rootsL (ls.map nc) ls.length)) (mulC z z) ∧
    polyAtF (squareF (rootsL (ls.map nc) ls.length)) (mulC z z) = (nestedF (squareF (rootsL (ls.map nc) ls.length)) (mulC z z), true) ∧
    ∃ u v : C2, polyAtF (rootsL (ls.map nc) ls.length) z = (u, true) ∧ polyAtF (rootsL (ls.map nc) ls.length) (turnC z) = (v, true) ∧ safeN (rootsL (ls.map nc) ls.length) z ∧ safeN (rootsL (ls.map nc) ls.length) (turnC z) ∧ fit2 (timesF u v) ∧
    ∀ uv, uv = (if ls.length % 2 = 1 then turnC (mulC u v) else mulC u v) → fit1 (sqF (powerF (subC (nestedF (squareF (rootsL (ls.map nc) ls.length)) (mulC z z)) uv))) ∧ fit1 (sqF (powerF uv)) ∧
      fcmp .gtr .f64 (wd (longF (subC (nestedF (squareF (rootsL (ls.map nc) ls.length)) (mulC z z)) uv))) (fop .mul .f64 4576918229304087675 (fop .add .f64 4607182418800017408 (wd (longF uv)))) = false := by
  obtain ⟨s1, s2, s3, s4, s5⟩ := h.square h1 h4
  have hZ : nz (2 * x, 2 * y) ≤ 16 := by unfold nz; simp only; omega
  have hZn : nz (-(2 * x), -(2 * y)) ≤ 16 := by unfold nz; simp only; omega
  obtain ⟨ft, vt⟩ := turnC_ok hz.1
  have gt : Gr (turnC z) (-(2 * x)) (-(2 * y)) 3 := ⟨ft, by rw [vt, hz.2]; refine q2e ?_ ?_ <;> (simp [Rat.intCast_neg]; try grind)⟩
  obtain ⟨a1, a2, a3, a4⟩ := h.value h1 h4 (Z := (2 * x, 2 * y)) hz (by omega)
  obtain ⟨b1, b2, b3, b4⟩ := h.value h1 h4 (Z := (-(2 * x), -(2 * y))) gt (by omega)
  obtain ⟨fit, gm⟩ := Gr.mulB (u := (2 * x, 2 * y)) (v := (2 * x, 2 * y)) hz hz (by omega) (by omega) (Nat.lt_of_le_of_lt (Nat.mul_le_mul hZ hZ) (by decide)) (by decide)
  have cz : cv (mulC z z) = cv z * cv z := by
    rw [gm.2, hz.2, show (-((3 + 3 : Nat) : Int)) = -3 + -3 by decide, p2_add, show (-((3 : Nat) : Int)) = -3 by decide]
    generalize p2 (-3) = e
    refine q2e ?_ ?_ <;> (simp [zm, Rat.intCast_sub, Rat.intCast_mul, Rat.intCast_add]; grind)
  have n128 : nz (zm (2 * x, 2 * y) (2 * x, 2 * y)) ≤ 128 := by
    obtain ⟨i, hi⟩ : ∃ i : Nat, x = (i : Int) - 4 := ⟨(x + 4).toNat, by omega⟩
    obtain ⟨j, hj⟩ : ∃ j : Nat, y = (j : Int) - 4 := ⟨(y + 4).toNat, by omega⟩
    have t := (show ∀ i, i < 9 → ∀ j, j < 9 → nz (zm (2 * ((i : Nat) - 4 : Int), 2 * ((j : Nat) - 4 : Int)) (2 * ((i : Nat) - 4 : Int), 2 * ((j : Nat) - 4 : Int))) ≤ 128 by decide +kernel) i (by omega) j (by omega)
    rw [hi, hj]; exact t
  have n2 : N (cv (mulC z z)) ≤ 2 := gr_le gm 128 n128 (by decide +kernel)
  have tn : nestedF (squareF (rootsL (ls.map nc) ls.length)) (mulC z z) = horner (squareF (rootsL (ls.map nc) ls.length)) (mulC z z) ls.length ((squareF (rootsL (ls.map nc) ls.length)).getD ls.length (0, 0)) := by
    unfold nestedF; rw [s2, Nat.add_sub_cancel]
  have ts : safeN (squareF (rootsL (ls.map nc) ls.length)) (mulC z z) = safeH (squareF (rootsL (ls.map nc) ls.length)) (mulC z z) ls.length ((squareF (rootsL (ls.map nc) ls.length)).getD ls.length (0, 0)) := by
    unfold safeN; rw [s2, Nat.add_sub_cancel]
  have ht := fun j => h.terms h4 j
  obtain ⟨_, _, q1, q2, q3, q4⟩ := t_tab ls.length (by omega)
  obtain ⟨h5, h6⟩ := horner_ap (F := squareF (rootsL (ls.map nc) ls.length)) gm.1 n2 ls.length h4 _ _ ((s5 ls.length (Nat.le_refl _)).mono q1 q2 q3 q4) (fun i hi => s5 i (by omega))
  have hval := (sides (t := fun j => cv ((rootsL (ls.map nc) ls.length).getD j (0, 0))) h1 h4 (by show cv _ = _; rw [(ht _).2.2, if_pos (Nat.le_refl _), cq_top]) (fun j hj => by show cv _ = _; rw [(ht j).2.2, if_neg (by omega)]) (cv z)).1
  have hcq : ∀ w, hV (fun j => cv ((rootsL (ls.map nc) ls.length).getD j (0, 0))) w ls.length (cv ((rootsL (ls.map nc) ls.length).getD ls.length (0, 0))) = (VV (gq X w) ls.length).1 := fun w => hV_cq X h1 h4 (fun j => cv ((rootsL (ls.map nc) ls.length).getD j (0, 0))) (fun j hj => by show cv _ = _; rw [(ht j).2.2, if_pos hj]) w
  have eu : cv (nestedF (rootsL (ls.map nc) ls.length) z) = (VV (gq X (cv z)) ls.length).1 := by
    rw [a2.2, ez_val, hz.2]; rfl
  have ev' : cv (nestedF (rootsL (ls.map nc) ls.length) (turnC z)) = (VV (gq X (-cv z)) ls.length).1 := by
    rw [b2.2, ez_val, ← vt, gt.2]; rfl
  rw [← cz, hcq, hcq, ← eu, ← ev'] at hval
  rw [hval, ← tn] at h6
  rw [← ts] at h5
  have hr := s4
  unfold rootedF at hr
  rw [Bool.and_eq_true] at hr
  obtain ⟨fuv, nuv⟩ := mulC_near a2.1 b2.1 (lt_of_p2 a3 (by decide)) (lt_of_p2 b3 (by decide)) (by
    refine lt_of_p2 (a := 80) (Rat.le_trans (N_mul _ _) ?_) (by decide)
    have := mul_le a3 b3 (N_nonneg _) (Rat.le_of_lt (p2_pos 40))
    rw [← p2_add] at this; exact this)
  refine ⟨ft, fit, finG gm, h5, by unfold polyAtF finiteX; rw [if_pos ⟨hr.1, finG gm⟩, if_pos ((fC_iff _).1 h6.f)], _, _, a4, b4, a1, b1, fuv, ?_⟩
  generalize nestedF (squareF (rootsL (ls.map nc) ls.length)) (mulC z z) = w at *
  generalize nestedF (rootsL (ls.map nc) ls.length) z = u at *
  generalize nestedF (rootsL (ls.map nc) ls.length) (turnC z) = v at *
  intro uv huv
  obtain ⟨W, hW⟩ : ∃ W, (if ls.length % 2 = 1 then -(cv u * cv v) else cv u * cv v) = W := ⟨_, rfl⟩
  rw [hW] at h6
  have nu : fC uv ∧ N (cv uv - W) ≤ u1 * N W + e1 := by
    subst hW huv
    split
    · obtain ⟨f, g⟩ := turnC_ok nuv.1
      refine ⟨f, ?_⟩
      have e3 : ∀ a c : Q2, -a - -c = -(a - c) := fun a c => by refine q2e ?_ ?_ <;> (simp; grind)
      rw [g, e3, N_neg, N_neg]; exact nuv.2
    · exact nuv
  exact last_near h6.f h6.e h6.m nu.1 nu.2
end
end Go.Proofs.YtfnhddaofllniaaGreat

/- Logarithms of float64, of both: the same words. Conditions: a number below 1.5 that is doubled J times. -/
namespace Go.Proofs.YtfnhddaofllniaaGreat
open Go Go.RowKit
set_option linter.unusedSimpArgs false
set_option linter.unusedVariables false

def dblF (x : Nat) : Nat := fop .mul .f64 x (nrm .f64 4611686018427387904)
def upF (x : Nat) : Nat → Nat | 0 => x | j + 1 => dblF (upF x j)
def kW (j : Nat) : Nat := floatOfInt .f64 (25 - 2 * (j : Int))
def eW (j : Nat) : Nat := floatOfInt .f64 (-(j : Int))
def serF (u : Nat) : Nat → Nat | 0 => nrm .f64 0 | j + 1 => fop .add .f64 (fop .quo .f64 (nrm .f64 4607182418800017408) (nrm .f64 (kW j))) (fop .mul .f64 u (serF u j))
def slF (y : Nat) : Nat := fop .quo .f64 (fop .sub .f64 y (nrm .f64 4607182418800017408)) (fop .add .f64 y (nrm .f64 4607182418800017408))
def logE (y j : Nat) : Nat := fop .add .f64 (fop .mul .f64 (nrm .f64 4611686018427387904) (fop .mul .f64 (slF y) (serF (fop .mul .f64 (slF y) (slF y)) 13))) (fop .mul .f64 (nrm .f64 (eW j)) (nrm .f64 4604418534313441775))
/-- Doubled J times, a number lies between. -/
structure LogUp (x J : Nat) : Prop where
  h : J < 199
  a : ∀ j, j < J → fcmp .lss .f64 (upF x j) (nrm .f64 4604930618986332160) = true
  b : fcmp .lss .f64 (upF x J) (nrm .f64 4604930618986332160) = false
  c : fcmp .geq .f64 (upF x J) (nrm .f64 4609434218613702656) = false
  d : fcmp .geq .f64 x (nrm .f64 4609434218613702656) = false
def flW : Value → Nat | .float _ x => x | _ => 0
theorem eT : ∀ j, j < 200 → nrm .f64 (eW j) = eW j ∧ (vN .f64 (eW j)).num.natAbs = j ∧ fop .sub .f64 (eW j) (nrm .f64 4607182418800017408) = eW (j + 1) := by decide +kernel
theorem kT : ∀ j, j < 13 → nrm .f64 (kW j) = kW j ∧ fcmp .geq .f64 (kW j) (nrm .f64 4607182418800017408) = true ∧ fop .sub .f64 (kW j) (nrm .f64 4611686018427387904) = kW (j + 1) ∧ ((vN .f64 (kW j)).num + 1).toNat = 26 - 2 * j := by decide +kernel
theorem kE : nrm .f64 (kW 13) = kW 13 ∧ fcmp .geq .f64 (kW 13) (nrm .f64 4607182418800017408) = false ∧ ((vN .f64 (kW 13)).num + 1).toNat = 0 := by decide +kernel
theorem k0 : nrm .f64 4627730092099895296 = kW 0 := by decide +kernel
theorem e0W : nrm .f64 0 = eW 0 := by decide +kernel

set_option maxRecDepth 100000 in
set_option maxHeartbeats 4000000 in
theorem log_impl (x J : Nat) (w : World) (H : RowKit.Hid (LogUp (nrm .f64 x) J)) : Calls Tryz.prog 96 #[.float .f64 x] w (RetF64 (logE (upF (nrm .f64 x) J) J) w) := by
  have E0 := Lib.hid e0W
  have K0 := Lib.hid k0
  go_enter Tryz.func96, Tryz.ntmps96
  go_wp2_with fail
  go_loopw [0, 3] (fun xv ev wr => ∃ (r e j m : Nat), xv = .float .f64 r ∧ ev = .float .f64 e ∧ nrm .f64 r = upF (nrm .f64 x) j ∧ nrm .f64 e = eW j ∧ j ≤ J ∧ wr = w.drewN m) (fun _ ev _ => J - (vN .f64 (nrm .f64 (flW ev))).num.natAbs)
  case atStart => exact ⟨x, 0, 0, 0, rfl, rfl, rfl, E0.out, Nat.zero_le _, rfl⟩
  case round =>
    obtain ⟨r, e, j, m, rfl, rfl, hr, he, hj, rfl⟩ := hrel
    have HR := Lib.hid hr
    have HE := Lib.hid he
    by_cases hlt : j < J
    · have hc : fcmp .lss .f64 (nrm .f64 r) (nrm .f64 4604930618986332160) = true := by rw [hr]; exact H.out.a j hlt
      have ET := Lib.hid (eT j (by have := H.out.h; omega))
      have ET1 := Lib.hid (eT (j + 1) (by have := H.out.h; omega))
      clear hr he
      go_wp2_with (first | ((with_reducible refine wpList_fop rfl .sub _ _ _ _ rfl rfl .f64 _ _ rfl rfl ?_); intro g1 mg1 hg1) | ((with_reducible refine wpList_fop rfl .mul _ _ _ _ rfl rfl .f64 _ _ rfl rfl ?_); intro g2 mg2 hg2))
      have HG1 := Lib.hid (show nrm .f64 g1 = eW (j + 1) by rw [hg1, HE.out]; exact ET.out.2.2)
      have HG2 := Lib.hid (show nrm .f64 g2 = upF (nrm .f64 x) (j + 1) by rw [hg2, HR.out]; rfl)
      go_roundw
      case rel => exact ⟨g2, g1, j + 1, _, rfl, rfl, HG2.out, HG1.out, by omega, by first | rfl | (simp; rfl)⟩
      case measure =>
        have a1 : (vN .f64 (nrm .f64 g1)).num.natAbs = j + 1 := by rw [HG1.out]; exact ET1.out.2.1
        have a2 : (vN .f64 (nrm .f64 e)).num.natAbs = j := by rw [HE.out]; exact ET.out.2.1
        simp only [flW, List.getElem_toArray, Array.getD, List.size_toArray, List.length_cons, List.length_nil]
        simp [flW, a1, a2]; omega
    · obtain rfl : j = J := by omega
      have hc : fcmp .lss .f64 (nrm .f64 r) (nrm .f64 4604930618986332160) = false := by rw [hr]; exact H.out.b
      have hc2 : fcmp .geq .f64 (nrm .f64 r) (nrm .f64 4609434218613702656) = false := by rw [hr]; exact H.out.c
      clear hr he
      go_wp2_with fail
      refine wp_loop_rounds 1 ?_
      rw [rounds_succ]
      go_wp2_with (first | ((with_reducible refine wpList_fop rfl .sub _ _ _ _ rfl rfl .f64 _ _ rfl rfl ?_); intro s1 ms1 hs1) | ((with_reducible refine wpList_fop rfl .add _ _ _ _ rfl rfl .f64 _ _ rfl rfl ?_); intro s2 ms2 hs2) | ((with_reducible refine wpList_fop rfl .quo _ _ _ _ rfl rfl .f64 _ _ rfl rfl ?_); intro s3 ms3 hs3) | ((with_reducible refine wpList_fop rfl .mul _ _ _ _ rfl rfl .f64 _ _ rfl rfl ?_); intro u1 mu1 hu1))
      have HS := Lib.hid (show nrm .f64 s3 = slF (upF (nrm .f64 x) j) by rw [hs3, hs1, hs2, HR.out]; rfl)
      have HU := Lib.hid (show nrm .f64 u1 = fop .mul .f64 (slF (upF (nrm .f64 x) j)) (slF (upF (nrm .f64 x) j)) by rw [hu1, HS.out])
      clear hs3 hs1 hs2 hu1 hc hc2
      go_loopw [6, 7] (fun qv kv wr => ∃ (q k i m : Nat), qv = .float .f64 q ∧ kv = .float .f64 k ∧ nrm .f64 q = serF (nrm .f64 u1) i ∧ nrm .f64 k = kW i ∧ i ≤ 13 ∧ wr = w.drewN m) (fun _ kv _ => ((vN .f64 (nrm .f64 (flW kv))).num + 1).toNat)
      case atStart => exact ⟨0, _, 0, _, rfl, rfl, rfl, K0.out, by omega, by first | rfl | (simp; rfl)⟩
      case round =>
        obtain ⟨q, k, i, mq, rfl, rfl, hq, hk, hi, rfl⟩ := hrel
        have HQ := Lib.hid hq
        have HK := Lib.hid hk
        by_cases hin : i < 13
        · have KT := Lib.hid (kT i hin)
          have hc : fcmp .geq .f64 (nrm .f64 k) (nrm .f64 4607182418800017408) = true := by rw [hk]; exact KT.out.2.1
          clear hq hk
          go_wp2_with (first | ((with_reducible refine wpList_fop rfl .quo _ _ _ _ rfl rfl .f64 _ _ rfl rfl ?_); intro p1 mp1 hp1) | ((with_reducible refine wpList_fop rfl .mul _ _ _ _ rfl rfl .f64 _ _ rfl rfl ?_); intro p2 mp2 hp2) | ((with_reducible refine wpList_fop rfl .add _ _ _ _ rfl rfl .f64 _ _ rfl rfl ?_); intro p3 mp3 hp3) | ((with_reducible refine wpList_fop rfl .sub _ _ _ _ rfl rfl .f64 _ _ rfl rfl ?_); intro p4 mp4 hp4))
          have HG1 := Lib.hid (show nrm .f64 p3 = serF (nrm .f64 u1) (i + 1) by rw [hp3, hp1, hp2, HQ.out, HK.out, serF, KT.out.1])
          have HG2 := Lib.hid (show nrm .f64 p4 = kW (i + 1) by rw [hp4, HK.out]; exact KT.out.2.2.1)
          go_roundw
          case rel => exact ⟨p3, p4, i + 1, _, rfl, rfl, HG1.out, HG2.out, by omega, by first | rfl | (simp; rfl)⟩
          case measure =>
            have a1 : ((vN .f64 (nrm .f64 p4)).num + 1).toNat ≤ 26 - 2 * (i + 1) := by
              rw [HG2.out]
              by_cases h12 : i + 1 < 13
              · rw [(kT (i + 1) h12).2.2.2]; exact Nat.le_refl _
              · obtain rfl : i = 12 := by omega
                rw [kE.2.2]; omega
            have a2 : ((vN .f64 (nrm .f64 k)).num + 1).toNat = 26 - 2 * i := by rw [HK.out]; exact KT.out.2.2.2
            simp [flW, a2]; omega
        · obtain rfl : i = 13 := by omega
          have hc : fcmp .geq .f64 (nrm .f64 k) (nrm .f64 4607182418800017408) = false := by rw [hk]; exact kE.2.1
          clear hq hk
          go_wp2_with (with_reducible refine wpList_fop rfl _ _ _ _ _ rfl rfl .f64 _ _ rfl rfl ?_; intro f mf hf)
          go_ret
          have h1 := HQ.out
          have h2 := HS.out
          have h3 := HE.out
          have h4 := HU.out
          rw [h4] at h1
          exact ⟨_, _, rfl, by simp only [logE, h1, h2, h3, (eT j (by have := H.out.h; omega)).1, *], by first | rfl | (simp; rfl)⟩
end Go.Proofs.YtfnhddaofllniaaGreat
