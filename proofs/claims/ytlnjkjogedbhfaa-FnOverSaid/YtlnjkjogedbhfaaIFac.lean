/- Factors over a prime, plain: candidates in order, divisors, the reference's run and the program's run give one list. Conditions: none (plain). -/
import Derived.Test.YtlnjkjogedbhfaaIDiv
namespace Go.Proofs.Ytlnjkjogedbhfaa
open Go Go.RowKit
set_option linter.unusedSimpArgs false
set_option linter.unusedVariables false

/-- A digit of n. -/
def dg (M n k : Nat) : Nat := n / M ^ k % M
/-- The candidate of degree d and number n. -/
def cand (M d n : Nat) : List Int := (List.range d).map (fun k => (dg M n k : Int)) ++ [1]
theorem cand_length (M d n : Nat) : (cand M d n).length = d + 1 := by simp [cand]
theorem cand_get (M d n k : Nat) : (cand M d n).getD k 0 = if k < d then (dg M n k : Int) else if k = d then 1 else 0 := by
  unfold cand
  simp only [List.getD, List.getElem?_append, List.length_map, List.length_range]
  by_cases h : k < d
  · rw [if_pos h, if_pos h]; simp [h]
  · rw [if_neg h, if_neg h]
    by_cases h2 : k = d
    · subst h2; simp
    · rw [if_neg h2, List.getElem?_eq_none (by simp; omega)]; rfl
theorem cand_last (M d n : Nat) : lastZ (cand M d n) = 1 := by
  rw [lastZ, cand_length, cand_get, if_neg (by omega), if_pos (by omega)]
theorem cand_ovr {M : Nat} (hm : primeB (M : Int) = true) {d n : Nat} (hd : d ≤ 99) : Ovr M (cand M d n) := by
  have hm2 := primeB_bd hm
  refine ⟨fun i => ?_, ⟨by rw [cand_length]; omega, .inr ?_⟩, by rw [cand_length]; omega⟩
  · rw [cand_get]
    split
    · have : dg M n i < M := Nat.mod_lt _ (by omega)
      omega
    · split <;> omega
  · show lastZ (cand M d n) ≠ 0
    rw [cand_last]; decide
theorem cand_zero {M d n : Nat} (hd : 1 ≤ d) : zeroB (cand M d n) = false := by simp [zeroB, cand_length]; omega
/-- Every list of digits is a number's. -/
theorem digits_of {M : Nat} : ∀ (d : Nat) (f : Nat → Nat), (∀ k, f k < M) → ∃ n, n < M ^ d ∧ ∀ k, k < d → dg M n k = f k
  | 0, _, _ => ⟨0, by simp, fun k h => absurd h (by omega)⟩
  | d + 1, f, hf => by
    obtain ⟨n, hn, hk⟩ := digits_of d (fun k => f (k + 1)) (fun k => hf (k + 1))
    have h0 := hf 0
    refine ⟨f 0 + M * n, ?_, fun k hkd => ?_⟩
    · rw [Nat.pow_succ, Nat.mul_comm (M ^ d) M]
      have h1 : M * (n + 1) ≤ M * M ^ d := Nat.mul_le_mul_left M hn
      rw [Nat.mul_add, Nat.mul_one] at h1
      omega
    · cases k with
      | zero => simp [dg, Nat.add_mul_mod_self_left, Nat.mod_eq_of_lt h0]
      | succ k =>
        rw [← hk k (by omega)]
        unfold dg
        rw [Nat.pow_succ, Nat.mul_comm (M ^ k) M, ← Nat.div_div_eq_div_mul, Nat.add_mul_div_left _ _ (by omega), Nat.div_eq_of_lt h0, Nat.zero_add]

/-- A whole over M with the last term 1. -/
structure Mon (M : Nat) (p : List Int) : Prop where
  ov : Ovr M p
  one : lastZ p = 1
theorem Mon.zero {M : Nat} {p : List Int} (h : Mon M p) : zeroB p = false := by
  cases hz : zeroB p
  · rfl
  · have h1 := h.one
    rw [zeroB_iff.1 hz] at h1
    simp [lastZ] at h1
theorem cand_mon {M : Nat} (hm : primeB (M : Int) = true) {d n : Nat} (hd : d ≤ 99) : Mon M (cand M d n) := ⟨cand_ovr hm hd, cand_last _ _ _⟩
theorem mon_cand {M : Nat} {p : List Int} (h : Mon M p) : ∃ n, n < M ^ (p.length - 1) ∧ p = cand M (p.length - 1) n := by
  have hl := h.ov.trd.1
  have hz : ∀ i, 0 ≤ p.getD i 0 ∧ p.getD i 0 < M := h.ov.ov
  obtain ⟨n, hn, hk⟩ := digits_of (M := M) (p.length - 1) (fun k => (p.getD k 0).toNat) (fun k => by have := hz k; omega)
  refine ⟨n, hn, ext_getD (by rw [cand_length]; omega) fun i => ?_⟩
  rw [cand_get]
  by_cases h1 : i < p.length - 1
  · rw [if_pos h1, hk i h1]
    have := hz i
    omega
  · rw [if_neg h1]
    by_cases h2 : i = p.length - 1
    · rw [if_pos h2, h2]; exact h.one
    · rw [if_neg h2]; exact co_beyond p (by omega)
/-- f divides p. -/
def Dv (M : Nat) (p f : List Int) : Prop := (divF p f M).2 = [0]
instance (M : Nat) (p f : List Int) : Decidable (Dv M p f) := inferInstanceAs (Decidable (_ = _))
/-- The quotient. -/
def quo (M : Nat) (p f : List Int) : List Int := (divF p f M).1
section
variable {M : Nat} (hm : primeB (M : Int) = true)
theorem Dv.eqm {p f : List Int} (hm : primeB (M : Int) = true) (hp : Mon M p) (hf : Mon M f) (h : Dv M p f) : Eqm M (cv (co (quo M p f)) (co f)) (co p) := by
  have h1 := div_id hm hp.ov hf.ov hf.zero
  intro i
  have h2 := h1 i
  unfold Dv at h
  rw [h, co_zero] at h2
  simp only [Int.add_zero] at h2
  exact h2
theorem quo_ovr {p f : List Int} (hm : primeB (M : Int) = true) (hp : Mon M p) (hf : Mon M f) : Ovr M (quo M p f) := (divF_ovr hm hp.ov hf.ov hf.zero).1
theorem co_last (p : List Int) : co p (p.length - 1) = lastZ p := rfl
/-- The quotient by a divisor has the last term 1, and the degrees add. -/
theorem quo_mon {p f : List Int} (hm : primeB (M : Int) = true) (hp : Mon M p) (hf : Mon M f) (h : Dv M p f) : Mon M (quo M p f) ∧ (quo M p f).length + f.length = p.length + 1 := by
  have hq := quo_ovr hm hp hf
  have he := h.eqm hm hp hf
  have hm2 := primeB_bd hm
  generalize quo M p f = q at *
  have hql := hq.trd.1
  have hfl := hf.ov.trd.1
  have hpl := hp.ov.trd.1
  have htop : cv (co q) (co f) (q.length - 1 + (f.length - 1)) = lastZ q * 1 := by
    rw [cv_top (q.length - 1) (f.length - 1) (fun i hi => co_beyond q (by omega)) (fun i hi => co_beyond f (by omega)), co_last, co_last, hf.one]
  have hzq : ∀ i, 0 ≤ q.getD i 0 ∧ q.getD i 0 < M := hq.ov
  have h1m : (1 : Int) % M = 1 := Int.emod_eq_of_lt (by omega) (by omega)
  have hlq := hzq (q.length - 1)
  have hlq2 : 0 ≤ lastZ q ∧ lastZ q < M := hlq
  have h1 := he (q.length - 1 + (f.length - 1))
  have h2 := he (p.length - 1)
  rw [htop, Int.mul_one, Int.emod_eq_of_lt hlq2.1 hlq2.2] at h1
  rw [co_last, hp.one, h1m] at h2
  have hle : p.length - 1 ≤ q.length - 1 + (f.length - 1) := by
    rcases Nat.lt_or_ge (q.length - 1 + (f.length - 1)) (p.length - 1) with hlt | hge
    · rw [cv_beyond (q.length - 1) (f.length - 1) (fun i hi => co_beyond q (by omega)) (fun i hi => co_beyond f (by omega)) hlt] at h2
      simp at h2
    · exact hge
  have heq : p.length - 1 = q.length - 1 + (f.length - 1) := by
    rcases Nat.lt_or_ge (p.length - 1) (q.length - 1 + (f.length - 1)) with hlt | hge
    · exfalso
      rw [co_beyond p (by omega), Int.zero_emod] at h1
      have hz : zeroB q = true := by
        cases hz : zeroB q
        · exact absurd h1 (hq.trd.last hz)
        · rfl
      rw [zeroB_iff.1 hz, co_zero, cv_zero_left _ (fun _ _ => rfl), Int.zero_emod] at h2
      omega
    · omega
  rw [← heq, co_last, hp.one, h1m] at h1
  exact ⟨⟨hq, h1⟩, by omega⟩
theorem dv_of_mul {p f : List Int} (hm : primeB (M : Int) = true) (hp : Mon M p) (hf : Mon M f) {s : Nat → Int} {d : Nat} (hs : ∀ i, d ≤ i → s i % M = 0) (h : Eqm M (cv s (co f)) (co p)) : Dv M p f :=
  (div_of_mul hm hp.ov hf.ov hf.zero hs h).1
theorem dv_self {p : List Int} (hm : primeB (M : Int) = true) (hp : Mon M p) : Dv M p p :=
  dv_of_mul hm hp hp (s := mono 0 1) (d := 1) (fun i hi => by rw [mono, if_neg (by omega)]; rfl) (fun i => by rw [cv_one])
theorem dv_trans {p c f : List Int} (hm : primeB (M : Int) = true) (hp : Mon M p) (hc : Mon M c) (hf : Mon M f) (h : Dv M p c) (h2 : Dv M (quo M p c) f) : Dv M p f := by
  have hq := (quo_mon hm hp hc h).1
  have e1 := h.eqm hm hp hc
  have e2 := h2.eqm hm hq hf
  generalize quo M p c = q at *
  generalize quo M q f = s at *
  refine dv_of_mul hm hp hf (s := cv (co s) (co c)) (d := s.length + c.length + 1) (fun i hi => ?_) ?_
  · rw [cv_beyond s.length c.length (fun j hj => co_beyond s (by omega)) (fun j hj => co_beyond c (by omega)) (by omega)]; rfl
  · refine Eqm.trans (fun i => ?_) ((e2.cv (Eqm.refl _ (co c))).trans e1)
    have e : cv (cv (co s) (co c)) (co f) = cv (cv (co s) (co f)) (co c) := by
      funext n
      rw [cv_assoc, cv_assoc]
      exact cv_congr (fun _ _ => rfl) (fun j _ => cv_comm _ _ _)
    rw [e]
theorem dv_cofactor {p c : List Int} (hm : primeB (M : Int) = true) (hp : Mon M p) (hc : Mon M c) (h : Dv M p c) : Dv M p (quo M p c) := by
  have hq := (quo_mon hm hp hc h).1
  have e1 := h.eqm hm hp hc
  generalize quo M p c = q at *
  exact dv_of_mul hm hp hq (s := co c) (d := c.length) (fun i hi => by rw [co_beyond c hi]; rfl) (Eqm.trans (fun i => by rw [cv_comm]) e1)
theorem mon_one {p : List Int} (hp : Mon M p) (h : p.length = 1) : p = [1] := by
  match p, h with
  | [x], _ => have := hp.one; simp [lastZ] at this; rw [this]
/-- With the quotient 1 the divisor is the whole. -/
theorem quo_one {p c : List Int} (hm : primeB (M : Int) = true) (hp : Mon M p) (hc : Mon M c) (h : Dv M p c) (h1 : (quo M p c).length = 1) : p = c ∧ quo M p c = [1] := by
  have hq := (quo_mon hm hp hc h).1
  have e1 := h.eqm hm hp hc
  have e := mon_one hq h1
  refine ⟨ovr_ext hp.ov.ov hc.ov.ov hp.ov.trd hc.ov.trd ?_, e⟩
  rw [e] at e1
  refine e1.symm.trans fun i => ?_
  have e2 : co [1] = mono 0 1 := by
    funext j
    cases j <;> rfl
  rw [e2, cv_one]
end

/-- No candidate ahead of (d, n) divides p. -/
def Ahead (M d n : Nat) (p : List Int) : Prop := ∀ d' n', 1 ≤ d' → n' < M ^ d' → (d' < d ∨ d' = d ∧ n' < n) → ¬ Dv M p (cand M d' n')
theorem Ahead.next {M d n : Nat} {p : List Int} (h : Ahead M d n p) (hn : ¬ Dv M p (cand M d n)) : Ahead M d (n + 1) p := fun d' n' h1 h2 h3 => by
  rcases h3 with h3 | ⟨rfl, h3⟩
  · exact h d' n' h1 h2 (.inl h3)
  · by_cases e : n' = n
    · subst e; exact hn
    · exact h d' n' h1 h2 (.inr ⟨rfl, by omega⟩)
theorem Ahead.up {M d : Nat} {p : List Int} (h : Ahead M d (M ^ d) p) : Ahead M (d + 1) 0 p := fun d' n' h1 h2 h3 => by
  rcases h3 with h3 | ⟨_, h3⟩
  · by_cases e : d' = d
    · subst e; exact h d' n' h1 h2 (.inr ⟨rfl, h2⟩)
    · exact h d' n' h1 h2 (.inl (by omega))
  · omega
theorem Ahead.quo {M d n : Nat} {p c : List Int} (hm : primeB (M : Int) = true) (hp : Mon M p) (hp8 : p.length ≤ 8) (hc : Mon M c) (h : Ahead M d n p) (hd : Dv M p c) : Ahead M d n (quo M p c) := fun d' n' h1 h2 h3 h4 => by
  by_cases h5 : d' ≤ 99
  · exact h d' n' h1 h2 h3 (dv_trans hm hp hc (cand_mon hm h5) hd h4)
  · have hq := quo_mon hm hp hc hd
    unfold Dv at h4
    unfold divF at h4
    rw [cand_length, if_pos (by have := hc.ov.trd.1; omega)] at h4
    simp only at h4
    have h6 := hq.1.one
    rw [h4] at h6
    simp [lastZ] at h6

theorem dv_len {M : Nat} {p c : List Int} (hm : primeB (M : Int) = true) (hp : Mon M p) (hc : Mon M c) (h : Dv M p c) : c.length ≤ p.length := by
  have h1 := quo_mon hm hp hc h
  have := h1.1.ov.trd.1
  omega

/-- The reference's run from degree d, number n: the list of factors. -/
inductive Fs (M : Nat) : Nat → Nat → List Int → List (List Int) → Prop
  | stop {d n : Nat} {p : List Int} : p.length - 1 < 2 * d → Fs M d n p (if 1 < p.length then [p] else [])
  | up {d n : Nat} {p : List Int} {L : List (List Int)} : 2 * d ≤ p.length - 1 → n = M ^ d → Fs M (d + 1) 0 p L → Fs M d n p L
  | hit {d n : Nat} {p : List Int} {L : List (List Int)} : 2 * d ≤ p.length - 1 → n < M ^ d → Dv M p (cand M d n) → Fs M d n (quo M p (cand M d n)) L → Fs M d n p (cand M d n :: L)
  | miss {d n : Nat} {p : List Int} {L : List (List Int)} : 2 * d ≤ p.length - 1 → n < M ^ d → ¬ Dv M p (cand M d n) → Fs M d (n + 1) p L → Fs M d n p L
/-- The program's run. -/
inductive Fi (M : Nat) : Nat → Nat → List Int → List (List Int) → Prop
  | stop {d n : Nat} {p : List Int} : n = M ^ d → p.length - 1 < 2 * (d + 1) → Fi M d n p (if 1 < p.length then [p] else [])
  | up {d n : Nat} {p : List Int} {L : List (List Int)} : n = M ^ d → 2 * (d + 1) ≤ p.length - 1 → Fi M (d + 1) 0 p L → Fi M d n p L
  | hit {d n : Nat} {p : List Int} {L : List (List Int)} : n < M ^ d → d ≤ p.length - 1 → Dv M p (cand M d n) → Fi M d n (quo M p (cand M d n)) L → Fi M d n p (cand M d n :: L)
  | miss {d n : Nat} {p : List Int} {L : List (List Int)} : n < M ^ d → (p.length - 1 < d ∨ ¬ Dv M p (cand M d n)) → Fi M d (n + 1) p L → Fi M d n p L
theorem fs_exists {M : Nat} (hm : primeB (M : Int) = true) : ∀ (k j i : Nat) (d n : Nat) (p : List Int), p.length ≤ k → p.length ≤ j + 2 * d → M ^ d ≤ n + i → 1 ≤ d → n ≤ M ^ d → Mon M p → p.length ≤ 90 → ∃ L, Fs M d n p L
  | 0, _, _, _, _, p, h, _, _, _, _, hp, _ => absurd hp.ov.trd.1 (by omega)
  | k + 1, 0, i, d, n, p, _, h, _, h1, _, hp, _ => ⟨_, .stop (by have := hp.ov.trd.1; omega)⟩
  | k + 1, j + 1, 0, d, n, p, h, h2, h3, h1, h4, hp, h9 => by
    by_cases hs : p.length - 1 < 2 * d
    · exact ⟨_, .stop hs⟩
    · obtain ⟨L, hL⟩ := fs_exists hm (k + 1) j (M ^ (d + 1)) (d + 1) 0 p h (by omega) (by omega) (by omega) (Nat.zero_le _) hp h9
      exact ⟨L, .up (by omega) (by omega) hL⟩
  | k + 1, j + 1, i + 1, d, n, p, h, h2, h3, h1, h4, hp, h9 => by
    by_cases hs : p.length - 1 < 2 * d
    · exact ⟨_, .stop hs⟩
    · by_cases he : n = M ^ d
      · obtain ⟨L, hL⟩ := fs_exists hm (k + 1) j (M ^ (d + 1)) (d + 1) 0 p h (by omega) (by omega) (by omega) (Nat.zero_le _) hp h9
        exact ⟨L, .up (by omega) he hL⟩
      · by_cases hd : Dv M p (cand M d n)
        · have hq := quo_mon hm hp (cand_mon hm (by omega)) hd
          rw [cand_length] at hq
          obtain ⟨L, hL⟩ := fs_exists hm k (j + 1) (i + 1) d n _ (by omega) (by omega) h3 h1 h4 hq.1 (by omega)
          exact ⟨_, .hit (by omega) (by omega) hd hL⟩
        · obtain ⟨L, hL⟩ := fs_exists hm (k + 1) (j + 1) i d (n + 1) p h h2 (by omega) h1 (by omega) hp h9
          exact ⟨L, .miss (by omega) (by omega) hd hL⟩
theorem fi_one {M d : Nat} (hd : 1 ≤ d) : ∀ (i n : Nat), n + i = M ^ d → Fi M d n [1] []
  | 0, n, h => by
    have := Fi.stop (M := M) (d := d) (n := n) (p := [1]) (by omega) (by simp)
    simpa using this
  | i + 1, n, h => .miss (by omega) (.inl (by simp; omega)) (fi_one hd i (n + 1) (by omega))
theorem fi_tail {M d : Nat} (hm : primeB (M : Int) = true) (hd : 1 ≤ d) (hd9 : d ≤ 99) {p : List Int} (hp : Mon M p) (hl : p.length - 1 < 2 * d) : ∀ (i n : Nat), n + i = M ^ d → Ahead M d n p → Fi M d n p (if 1 < p.length then [p] else [])
  | 0, n, h, _ => .stop (by omega) (by omega)
  | i + 1, n, h, ha => by
    have hc := cand_mon (n := n) hm hd9
    by_cases hv : Dv M p (cand M d n)
    · have hlen := dv_len hm hp hc hv
      rw [cand_length] at hlen
      have hq := quo_mon hm hp hc hv
      rw [cand_length] at hq
      by_cases h1 : (quo M p (cand M d n)).length = 1
      · have h2 := quo_one hm hp hc hv h1
        have h3 := Fi.hit (by omega) (by omega) hv (h2.2 ▸ fi_one hd (i + 1) n h)
        rw [if_pos (by omega)]
        rw [← h2.1] at h3
        exact h3
      · exfalso
        have h4 := hq.1.ov.trd.1
        obtain ⟨nq, hn, he⟩ := mon_cand hq.1
        have h5 := dv_cofactor hm hp hc hv
        rw [he] at h5
        exact ha _ _ (by omega) hn (.inl (by omega)) h5
    · exact .miss (by omega) (.inr hv) (fi_tail hm hd hd9 hp hl i (n + 1) (by omega) (ha.next hv))
/-- Both runs give the same list. -/
theorem fs_fi {M : Nat} (hm : primeB (M : Int) = true) {d n : Nat} {p : List Int} {L : List (List Int)} (h : Fs M d n p L) : Mon M p → p.length ≤ 8 → 1 ≤ d → d ≤ 4 → n ≤ M ^ d → Ahead M d n p → Fi M d n p L := by
  induction h with
  | stop h1 => exact fun hp _ hd h4 hn ha => fi_tail hm hd (by omega) hp h1 _ _ (Nat.add_sub_of_le hn) ha
  | @up d n p L h1 h2 h3 ih =>
    intro hp h8 hd h4 hn ha
    subst h2
    by_cases h5 : 2 * (d + 1) ≤ p.length - 1
    · exact .up rfl h5 (ih hp h8 (by omega) (by omega) (Nat.zero_le _) ha.up)
    · cases h3 with
      | stop h6 => exact .stop rfl h6
      | up h6 => exact absurd h6 h5
      | hit h6 => exact absurd h6 h5
      | miss h6 => exact absurd h6 h5
  | @hit d n p L h1 h2 h3 h4 ih =>
    intro hp h8 hd h5 hn ha
    have hc := cand_mon (n := n) hm (show d ≤ 99 by omega)
    have hq := quo_mon hm hp hc h3
    rw [cand_length] at hq
    exact .hit h2 (by omega) h3 (ih hq.1 (by omega) hd h5 hn (ha.quo hm hp h8 hc h3))
  | @miss d n p L h1 h2 h3 h4 ih =>
    intro hp h8 hd h5 hn ha
    exact .miss h2 (.inr h3) (ih hp h8 hd h5 (by omega) (ha.next h3))

/-- a comes before b: the terms from k down. -/
def befGo (a b : List Int) : Nat → Bool
  | 0 => false
  | k + 1 => if a.getD k 0 = b.getD k 0 then befGo a b k else decide (a.getD k 0 < b.getD k 0)
def befB (a b : List Int) : Bool := if a.length = b.length then befGo a b a.length else decide (a.length < b.length)
theorem bef_digits {M d n n' : Nat} (hM : 0 < M) : ∀ k, k ≤ d → n % M ^ k ≤ n' % M ^ k → befGo (cand M d n') (cand M d n) k = false
  | 0, _, _ => rfl
  | k + 1, hk, h => by
    have hkd : k < d := by omega
    simp only [befGo, cand_get, hkd, if_true]
    rw [Nat.mod_pow_succ, Nat.mod_pow_succ] at h
    have ih := bef_digits (M := M) (d := d) (n := n) (n' := n') hM k (by omega)
    have e1 : n / M ^ k % M = dg M n k := rfl
    have e2 : n' / M ^ k % M = dg M n' k := rfl
    rw [e1, e2] at h
    have hlt : n % M ^ k < M ^ k := Nat.mod_lt _ (Nat.pow_pos hM)
    have hlt' : n' % M ^ k < M ^ k := Nat.mod_lt _ (Nat.pow_pos hM)
    generalize n % M ^ k = f at *
    generalize n' % M ^ k = g at *
    generalize dg M n k = x at *
    generalize dg M n' k = y at *
    split
    · rename_i he
      have he2 : y = x := by omega
      subst he2
      exact ih (by omega)
    · rename_i he
      simp only [decide_eq_false_iff_not]
      intro hyx
      have h3 : y + 1 ≤ x := by omega
      have h4 := Nat.mul_le_mul_left (M ^ k) h3
      rw [Nat.mul_add, Nat.mul_one] at h4
      omega
/-- At or behind (d, n). -/
def Ge (M d n : Nat) (x : List Int) : Prop := ∃ d' n', x = cand M d' n' ∧ n' < M ^ d' ∧ (d < d' ∨ d = d' ∧ n ≤ n')
theorem bef_ge {M d n : Nat} (hM : 0 < M) (hn : n < M ^ d) {x : List Int} (h : Ge M d n x) : befB x (cand M d n) = false := by
  obtain ⟨d', n', rfl, hn', h⟩ := h
  unfold befB
  rw [cand_length, cand_length]
  rcases h with h | ⟨rfl, h⟩
  · rw [if_neg (by omega)]; simp; omega
  · simp only [if_true, befGo, cand_get, Nat.lt_irrefl, if_false]
    exact bef_digits hM d (Nat.le_refl _) (by rw [Nat.mod_eq_of_lt hn, Nat.mod_eq_of_lt hn']; exact h)
theorem Ge.le {M d n d2 n2 : Nat} {x : List Int} (h : Ge M d n x) (h2 : d2 < d ∨ d2 = d ∧ n2 ≤ n) : Ge M d2 n2 x := by
  obtain ⟨d', n', rfl, hn', h⟩ := h
  exact ⟨d', n', rfl, hn', by omega⟩
/-- What the list holds: wholes with the last term 1, in order. -/
structure FacL (M : Nat) (k : Nat) (L : List (List Int)) : Prop where
  mon : ∀ x ∈ L, Mon M x ∧ 2 ≤ x.length ∧ x.length ≤ k
  srt : L.Pairwise fun x y => befB y x = false
  few : L.length + 1 ≤ k
theorem fs_ord {M : Nat} (hm : primeB (M : Int) = true) {d n : Nat} {p : List Int} {L : List (List Int)} (h : Fs M d n p L) : Mon M p → p.length ≤ 8 → 1 ≤ d → d ≤ 4 → n ≤ M ^ d → Ahead M d n p → FacL M p.length L ∧ ∀ x ∈ L, Ge M d n x := by
  have hM := (primeB_bd hm).1
  induction h with
  | @stop d n p h1 =>
    intro hp h8 hd h4 hn ha
    by_cases hl : 1 < p.length
    · rw [if_pos hl]
      refine ⟨⟨fun x hx => ?_, by simp, by simp; omega⟩, fun x hx => ?_⟩
      · simp at hx; subst hx; exact ⟨hp, hl, Nat.le_refl _⟩
      · simp at hx; subst hx
        obtain ⟨n', hn', he⟩ := mon_cand hp
        refine ⟨_, n', he, hn', ?_⟩
        by_cases h5 : x.length - 1 < d ∨ x.length - 1 = d ∧ n' < n
        · exact absurd (dv_self hm hp) (by
            have h6 := ha _ _ (by omega) hn' h5
            rwa [← he] at h6)
        · omega
    · rw [if_neg hl]
      exact ⟨⟨by simp, by simp, by have := hp.ov.trd.1; simpa using this⟩, by simp⟩
  | @up d n p L h1 h2 h3 ih =>
    intro hp h8 hd h4 hn ha
    subst h2
    have := ih hp h8 (by omega) (by omega) (Nat.zero_le _) ha.up
    exact ⟨this.1, fun x hx => (this.2 x hx).le (.inl (by omega))⟩
  | @hit d n p L h1 h2 h3 h4 ih =>
    intro hp h8 hd h5 hn ha
    have hc := cand_mon (n := n) hm (show d ≤ 99 by omega)
    have hq := quo_mon hm hp hc h3
    rw [cand_length] at hq
    have hi := ih hq.1 (by omega) hd h5 hn (ha.quo hm hp h8 hc h3)
    refine ⟨⟨fun x hx => ?_, ?_, ?_⟩, fun x hx => ?_⟩
    · rcases List.mem_cons.1 hx with rfl | hx
      · exact ⟨hc, by rw [cand_length]; omega, by rw [cand_length]; omega⟩
      · have := hi.1.mon x hx
        exact ⟨this.1, this.2.1, by omega⟩
    · exact List.pairwise_cons.2 ⟨fun y hy => bef_ge (by omega) h2 (hi.2 y hy), hi.1.srt⟩
    · have := hi.1.few
      simp only [List.length_cons]; omega
    · rcases List.mem_cons.1 hx with rfl | hx
      · exact ⟨d, n, rfl, h2, .inr ⟨rfl, Nat.le_refl _⟩⟩
      · exact hi.2 x hx
  | @miss d n p L h1 h2 h3 h4 ih =>
    intro hp h8 hd h5 hn ha
    have := ih hp h8 hd h5 (by omega) (ha.next h3)
    exact ⟨this.1, fun x hx => (this.2 x hx).le (.inr ⟨rfl, by omega⟩)⟩
theorem ahead_start (M : Nat) (p : List Int) : Ahead M 1 0 p := fun d' n' h1 _ h3 => by omega
/-- All of it, from the start. -/
theorem fac_exists {M : Nat} (hm : primeB (M : Int) = true) {p : List Int} (hp : Mon M p) (h8 : p.length ≤ 8) : ∃ L, Fs M 1 0 p L ∧ (2 ≤ p.length - 1 → Fi M 1 0 p L) ∧ FacL M p.length L := by
  obtain ⟨L, hL⟩ := fs_exists hm p.length p.length (M ^ 1) 1 0 p (Nat.le_refl _) (by omega) (by omega) (Nat.le_refl _) (Nat.zero_le _) hp (by omega)
  exact ⟨L, hL, fun _ => fs_fi hm hL hp h8 (Nat.le_refl _) (by omega) (Nat.zero_le _) (ahead_start M p), (fs_ord hm hL hp h8 (Nat.le_refl _) (by omega) (Nat.zero_le _) (ahead_start M p)).1⟩

end Go.Proofs.Ytlnjkjogedbhfaa
