/- Division over a prime, as an identity of series. Conditions: none (plain). -/
import Derived.Test.YtlnjkjogedbhfaaI17
import Derived.Test.YtlnjkjogedbhfaaIAlg
namespace Go.Proofs.Ytlnjkjogedbhfaa
open Go Go.RowKit
set_option linter.unusedSimpArgs false
set_option linter.unusedVariables false

/-- A list as a series. -/
def co (zs : List Int) : Nat → Int := fun i => zs.getD i 0
theorem co_beyond (zs : List Int) {i : Nat} (h : zs.length ≤ i) : co zs i = 0 := by
  simp only [co, List.getD]; rw [List.getElem?_eq_none h]; rfl
theorem mulRow_get {x : Int} {b : List Int} {i : Nat} {o : List Int} (hi : i + b.length ≤ o.length) (n : Nat) : ∀ k, k ≤ b.length → (mulRow x b i o k).getD n 0 = o.getD n 0 + if i ≤ n ∧ n < i + k then x * b.getD (n - i) 0 else 0
  | 0, _ => by rw [if_neg (by omega), Int.add_zero]; rfl
  | k + 1, hk => by
    rw [mulRow, addAt_get _ _ _ _ (by rw [mulRow_length]; omega), mulRow_get hi n k (by omega)]
    by_cases e : n = i + k
    · subst e; rw [if_neg (by omega), if_pos rfl, if_pos (by omega), show i + k - i = k by omega, Int.add_zero]
    · rw [if_neg e, Int.add_zero]
      by_cases e2 : i ≤ n ∧ n < i + k
      · rw [if_pos e2, if_pos (by omega)]
      · rw [if_neg e2, if_neg (by omega)]
/-- The first k terms. -/
def cut (f : Nat → Int) (k : Nat) : Nat → Int := fun i => if i < k then f i else 0
theorem cut_succ (f g : Nat → Int) (k n : Nat) : cv (cut f (k + 1)) g n = cv (cut f k) g n + if k ≤ n then f k * g (n - k) else 0 := by
  have e : cut f (k + 1) = fun i => cut f k i + mono k (f k) i := by
    funext i
    unfold cut mono
    rcases Nat.lt_trichotomy i k with h | h | h
    · rw [if_pos (by omega), if_pos h, if_neg (by omega), Int.add_zero]
    · subst h; rw [if_pos (by omega), if_neg (by omega), if_pos rfl, Int.zero_add]
    · rw [if_neg (by omega), if_neg (by omega), if_neg (by omega), Int.add_zero]
  rw [e, cv_add_left, cv_mono]
theorem cut_zero (f g : Nat → Int) (n : Nat) : cv (cut f 0) g n = 0 := cv_zero_left g (fun i _ => by simp [cut])
theorem cut_all {zs : List Int} {k : Nat} (h : zs.length ≤ k) : cut (co zs) k = co zs := by
  funext i
  unfold cut
  split
  · rfl
  · rw [co_beyond _ (by omega)]
theorem mulRows_get {a b o : List Int} (hl : a.length + b.length - 1 ≤ o.length) (n : Nat) : ∀ i, i ≤ a.length → (mulRows a b o i).getD n 0 = o.getD n 0 + cv (cut (co a) i) (co b) n
  | 0, _ => by rw [cut_zero, Int.add_zero]; rfl
  | i + 1, hi => by
    rw [mulRows, mulRow_get (by rw [mulRows_length]; omega) n _ (Nat.le_refl _), mulRows_get hl n i (by omega), cut_succ]
    rw [Int.add_assoc]
    congr 2
    by_cases e : i ≤ n
    · rw [if_pos e]
      by_cases e2 : n < i + b.length
      · rw [if_pos ⟨e, e2⟩]; rfl
      · rw [if_neg (by omega), co_beyond b (by omega), Int.mul_zero]
    · rw [if_neg e, if_neg (by omega)]
/-- A product's terms are the convolution. -/
theorem mulZ_co (a b : List Int) : co (mulZ a b) = cv (co a) (co b) := by
  funext n
  have h := mulRows_get (a := a) (b := b) (o := List.replicate (a.length + b.length - 1) 0) (by simp) n a.length (Nat.le_refl _)
  rw [cut_all (Nat.le_refl _)] at h
  show (mulZ a b).getD n 0 = _
  rw [mulZ, h]
  have e : (List.replicate (a.length + b.length - 1) (0 : Int)).getD n 0 = 0 := by
    simp only [List.getD, List.getElem?_replicate]
    split <;> rfl
  rw [e, Int.zero_add]
theorem trimTo_zero {zs : List Int} : ∀ (n j : Nat), trimTo zs n ≤ j → j < n → zs.getD j 0 = 0
  | 0, j, _, h => absurd h (by omega)
  | 1, j, h1, h => by
    have e : trimTo zs 1 = 1 := rfl
    omega
  | n + 2, j, h1, h => by
    unfold trimTo at h1
    split at h1
    · rename_i h0
      by_cases e : j = n + 1
      · subst e; exact h0
      · exact trimTo_zero (n + 1) j h1 (by omega)
    · omega
theorem trimZ_co (zs : List Int) : co (trimZ zs) = co zs := by
  funext i
  show (trimZ zs).getD i 0 = zs.getD i 0
  rw [trimZ_get]
  split
  · rfl
  · rename_i h
    by_cases h2 : i < zs.length
    · exact (trimTo_zero zs.length i (by unfold trimN at h; omega) h2).symm
    · exact (co_beyond zs (by omega)).symm
theorem mods_eqm (m : Int) (zs : List Int) : Eqm m (co (modsZ m zs)) (co zs) := fun i => by
  show (modsZ m zs).getD i 0 % m = zs.getD i 0 % m
  rw [mods_get, Int.emod_emod]
/-- A product over m. -/
theorem mulF_eqm (m : Int) (a b : List Int) : Eqm m (co (mulF m a b)) (cv (co a) (co b)) := by
  rw [mulF, trimZ_co, ← mulZ_co]
  exact mods_eqm m _
/-- Lists over m that are equal up to multiples of m are equal. -/
theorem ovr_ext {m : Int} {a b : List Int} (ha : OvI m a) (hb : OvI m b) (ta : Trd a) (tb : Trd b) (h : Eqm m (co a) (co b)) : a = b := by
  have hg : ∀ i, a.getD i 0 = b.getD i 0 := fun i => by
    have h1 := h i
    have h2 := ha i
    have h3 := hb i
    simp only [co] at h1
    rwa [Int.emod_eq_of_lt h2.1 h2.2, Int.emod_eq_of_lt h3.1 h3.2] at h1
  have hl : a.length = b.length := by
    rcases Nat.lt_trichotomy a.length b.length with h1 | h1 | h1
    · exfalso
      have h2 := hg (b.length - 1)
      rw [show a.getD (b.length - 1) 0 = 0 from co_beyond a (by omega)] at h2
      rcases tb.2 with h3 | h3
      · have := ta.1; omega
      · exact h3 h2.symm
    · exact h1
    · exfalso
      have h2 := hg (a.length - 1)
      rw [show b.getD (a.length - 1) 0 = 0 from co_beyond b (by omega)] at h2
      rcases ta.2 with h3 | h3
      · have := tb.1; omega
      · exact h3 h2
  exact ext_getD hl hg

theorem divGo_id {b : List Int} {m inv : Int} : ∀ (k : Nat) (s : List Int × List Int), k + b.length ≤ s.1.length + 1 → k ≤ s.2.length →
    (∀ i, k ≤ i → (divGo b m inv k s).2.getD i 0 = s.2.getD i 0) ∧ ∀ n, ((divGo b m inv k s).1.getD n 0 + cv (cut (co (divGo b m inv k s).2) k) (co b) n) % m = s.1.getD n 0 % m
  | 0, s, _, _ => ⟨fun _ _ => rfl, fun n => by rw [cut_zero, Int.add_zero]; rfl⟩
  | k + 1, s, h1, h2 => by
    have ih := divGo_id (b := b) (m := m) (inv := inv) k (subRow (divQ b m inv k s.1) b m k s.1 b.length, s.2.set k (divQ b m inv k s.1)) (by simp only [subRow_length]; omega) (by simp only [List.length_set]; omega)
    have e : divGo b m inv (k + 1) s = divGo b m inv k (subRow (divQ b m inv k s.1) b m k s.1 b.length, s.2.set k (divQ b m inv k s.1)) := rfl
    rw [e]
    generalize divGo b m inv k (subRow (divQ b m inv k s.1) b m k s.1 b.length, s.2.set k (divQ b m inv k s.1)) = r at *
    obtain ⟨ih1, ih2⟩ := ih
    have hk : r.2.getD k 0 = divQ b m inv k s.1 := by
      rw [ih1 k (Nat.le_refl _)]
      simp [List.getD, show k < s.2.length by omega]
    refine ⟨fun i hi => ?_, fun n => ?_⟩
    · rw [ih1 i (by omega)]
      simp only [List.getD]
      rw [List.getElem?_set_ne (by omega)]
    · have h3 := ih2 n
      simp only at h3
      rw [subRow_get (by omega) n _ (Nat.le_refl _)] at h3
      rw [cut_succ, show co r.2 k = divQ b m inv k s.1 from hk]
      generalize divQ b m inv k s.1 = q at *
      by_cases h4 : k ≤ n ∧ n < k + b.length
      · rw [if_pos h4, Int.emod_emod] at h3
        rw [if_pos h4.1, ← Int.add_assoc]
        have h5 := emod_add_congr h3 (rfl : (q * co b (n - k)) % m = (q * co b (n - k)) % m)
        rw [h5]
        congr 1
        show s.1.getD n 0 - q * b.getD (n - k) 0 + q * b.getD (n - k) 0 = _
        omega
      · rw [if_neg h4] at h3
        by_cases h6 : k ≤ n
        · rw [if_pos h6, co_beyond b (show b.length ≤ n - k by omega), Int.mul_zero, Int.add_zero]; exact h3
        · rw [if_neg h6, Int.add_zero]; exact h3
theorem co_zero : co [0] = fun _ => 0 := by
  funext i
  cases i <;> rfl
/-- The division's identity. -/
theorem div_id {a b : List Int} {m : Int} (hm : primeB m = true) (ha : Ovr m a) (hb : Ovr m b) (hz : zeroB b = false) :
    Eqm m (fun n => cv (co (divF a b m).1) (co b) n + co (divF a b m).2 n) (co a) := by
  intro n
  unfold divF
  split
  · simp only [co_zero]
    rw [cv_zero_left _ (fun _ _ => rfl), Int.zero_add]
  · rename_i hab
    have hl := divLO_left hm ha.ov hb.ov hb.ne (hb.trd.last hz) (by omega)
    have hb1 : 0 < b.length := List.length_pos_iff.2 hb.ne
    have h := (divGo_id (b := b) (m := m) (inv := invZ (lastZ b) m) (a.length - b.length + 1) (a, List.replicate (a.length - b.length + 1) 0) (by simp only; omega) (by simp)).2 n
    have e : divGo b m (invZ (lastZ b) m) (a.length - b.length + 1) (a, List.replicate (a.length - b.length + 1) 0) = divLO a b m := rfl
    rw [e, cut_all (by rw [hl.2.2.2]; exact Nat.le_refl _)] at h
    simp only [trimZ_co]
    have hr : co (if b.length = 1 then [0] else trimZ ((divLO a b m).1.take (b.length - 1))) n = (divLO a b m).1.getD n 0 := by
      split
      · rename_i h1
        rw [co_zero, hl.2.1 n (by omega)]
      · rw [trimZ_co]
        show ((divLO a b m).1.take (b.length - 1)).getD n 0 = _
        simp only [List.getD, List.getElem?_take]
        split
        · rfl
        · have := hl.2.1 n (by omega)
          simp only [List.getD] at this
          rw [this]; rfl
    rw [hr, Int.add_comm]
    exact h
theorem div_rest_zero {a b : List Int} {m : Int} (hm : primeB m = true) (ha : Ovr m a) (hb : Ovr m b) (hz : zeroB b = false) : ∀ j, b.length - 1 ≤ j → co (divF a b m).2 j = 0 := by
  intro j hj
  have h := (divF_ovr hm ha hb hz).2.2.1
  have hb1 : 0 < b.length := List.length_pos_iff.2 hb.ne
  rcases h with h | h
  · exact co_beyond _ (by omega)
  · by_cases hj0 : j = 0
    · subst hj0
      have h1 : b.length = 1 := by omega
      have hm2 := divF_rest_length a b m hb.ne hz
      have e : meas b = 1 := by unfold meas; rw [hz, h1]; rfl
      rw [e] at hm2
      have h3 : zeroB (divF a b m).2 = true := by
        cases hzr : zeroB (divF a b m).2
        · have hp := List.length_pos_iff.2 (divF_ovr hm ha hb hz).2.1.ne
          unfold meas at hm2
          rw [hzr, if_neg (by simp)] at hm2
          omega
        · rfl
      rw [zeroB_iff.1 h3]; rfl
    · exact co_beyond _ (by omega)
/-- A product with a whole whose last term has an inverse: if it is zero from the last one's place on, then the other factor is zero. -/
theorem factor_zero {m : Int} {b : List Int} (hm : primeB m = true) (hb : Ovr m b) (hz : zeroB b = false) {f : Nat → Int} (h : ∀ j, b.length - 1 ≤ j → cv f (co b) j % m = 0) :
    ∀ d, (∀ i, d ≤ i → f i % m = 0) → ∀ i, f i % m = 0
  | 0, hf => fun i => hf i (Nat.zero_le _)
  | d + 1, hf => by
    have hlz := hb.trd.last hz
    have hbl := hb.ov (b.length - 1)
    have hm2 := primeB_bd hm
    have h1 := cv_top_m (m := m) d (b.length - 1) (f := f) (g := co b) (fun i hi => hf i (by omega)) (fun i hi => by rw [co_beyond b (by omega)]; rfl)
    rw [h (d + (b.length - 1)) (by omega)] at h1
    have h2 : f d % m = 0 := by
      have h3 := inv_mul (m := m) (x := lastZ b) hm (by have h4 : 0 ≤ lastZ b := hbl.1; omega) hbl.2
      have e : f d % m = (f d * co b (b.length - 1) * invZ (lastZ b) m) % m := by
        rw [Int.mul_assoc, Int.mul_emod, show co b (b.length - 1) = lastZ b from rfl, h3, Int.mul_one, Int.emod_emod]
      rw [e, Int.mul_emod, ← h1, Int.zero_mul, Int.zero_emod]
    exact factor_zero hm hb hz h d (fun i hi => by
      by_cases e : i = d
      · subst e; exact h2
      · exact hf i (by omega))
/-- What is a multiple leaves no rest, and its quotient is the other factor. -/
theorem div_of_mul {a b : List Int} {m : Int} (hm : primeB m = true) (ha : Ovr m a) (hb : Ovr m b) (hz : zeroB b = false) {s : Nat → Int} {d : Nat} (hs : ∀ i, d ≤ i → s i % m = 0) (h : Eqm m (cv s (co b)) (co a)) :
    (divF a b m).2 = [0] ∧ Eqm m (co (divF a b m).1) s := by
  have h1 := div_id hm ha hb hz
  have h2 := div_rest_zero hm ha hb hz
  have hov := divF_ovr hm ha hb hz
  generalize (divF a b m).1 = q at *
  generalize (divF a b m).2 = r at *
  have hm2 := primeB_bd hm
  have hdiff : ∀ n, cv (fun i => s i - co q i) (co b) n % m = co r n % m := fun n => by
    rw [cv_sub_left]
    have h3 := (h n).trans (h1 n).symm
    simp only at h3
    have h4 := emod_sub_congr h3 (rfl : cv (co q) (co b) n % m = cv (co q) (co b) n % m)
    rw [h4]
    congr 1
    omega
  have hz0 := factor_zero hm hb hz (f := fun i => s i - co q i) (fun j hj => by rw [hdiff j, h2 j hj]; rfl) (max d q.length) (fun i hi => by
    rw [co_beyond q (by omega), Int.sub_zero]
    exact hs i (by omega))
  have hr0 : ∀ n, co r n % m = 0 := fun n => by
    rw [← hdiff n]
    have h5 := cv_eqm_n (m := m) (n := n) (f := fun i => s i - co q i) (f2 := fun _ => 0) (g := co b) (g2 := co b) (fun i _ => by rw [hz0 i]; rfl) (fun _ _ => rfl)
    rw [h5, cv_zero_left _ (fun _ _ => rfl)]; rfl
  refine ⟨?_, fun i => ?_⟩
  · refine ovr_ext (m := m) hov.2.1.ov (fun i => by cases i <;> simp <;> omega) hov.2.1.trd ⟨by simp, .inl (by simp)⟩ (fun i => ?_)
    rw [hr0 i, co_zero]; rfl
  · have h6 := hz0 i
    have h7 := Int.emod_emod_of_dvd (s i) (Int.dvd_refl m)
    have h8 := Int.dvd_of_emod_eq_zero h6
    obtain ⟨c, hc⟩ := h8
    have h9 : s i = co q i + m * c := by omega
    rw [h9, Int.add_mul_emod_self_left]

end Go.Proofs.Ytlnjkjogedbhfaa
