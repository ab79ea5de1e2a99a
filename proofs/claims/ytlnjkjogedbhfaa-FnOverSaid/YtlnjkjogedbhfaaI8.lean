/- Division over a prime, as both texts make it. Conditions: none. -/
import Derived.Test.YtlnjkjogedbhfaaI7
namespace Go.Proofs.Ytlnjkjogedbhfaa
open Go Go.RowKit
set_option linter.unusedSimpArgs false
set_option linter.unusedVariables false

/-- All terms are remainders. -/
def OvI (m : Int) (zs : List Int) : Prop := ∀ i, 0 ≤ zs.getD i 0 ∧ zs.getD i 0 < m
theorem OvI.bd {m : Int} {zs : List Int} (h : OvI m zs) {M : Int} (hm : m ≤ M + 1) : BdI M zs := fun i => by have := h i; constructor <;> omega
/-- Without zeros at the end, but for one. -/
def Trd (zs : List Int) : Prop := 1 ≤ zs.length ∧ (zs.length ≤ 1 ∨ zs.getD (zs.length - 1) 0 ≠ 0)
theorem Trd.ne {zs : List Int} (h : Trd zs) : zs ≠ [] := by rintro rfl; have := h.1; simp at this
theorem Trd.trimN {zs : List Int} (h : Trd zs) : trimN zs = zs.length := trimTo_end (fun h2 => h.2.elim (fun h3 => by omega) (fun h3 => h3 h2.2))
theorem Trd.trimZ {zs : List Int} (h : Trd zs) : trimZ zs = zs := by rw [Proofs.Ytlnjkjogedbhfaa.trimZ, h.trimN, List.take_length]
theorem Trd.trimS {zs : List Int} (h : Trd zs) : trimS zs = zs := by rw [Proofs.Ytlnjkjogedbhfaa.trimS, if_neg h.ne, h.trimZ]
theorem trimTo_pos {zs : List Int} : ∀ {n}, 1 ≤ n → 1 ≤ trimTo zs n
  | 1, _ => by simp [trimTo]
  | n + 2, _ => by
    unfold trimTo
    split
    · exact trimTo_pos (by omega)
    · omega
theorem trimTo_last {zs : List Int} : ∀ {n}, 1 < trimTo zs n → zs.getD (trimTo zs n - 1) 0 ≠ 0
  | 0, h => by simp [trimTo] at h
  | 1, h => by simp [trimTo] at h
  | n + 2, h => by
    unfold trimTo at h ⊢
    split
    · rename_i h2
      rw [if_pos h2] at h
      exact trimTo_last h
    · rename_i h2
      simpa using h2
theorem trimZ_get (zs : List Int) (i : Nat) : (trimZ zs).getD i 0 = if i < trimN zs then zs.getD i 0 else 0 := by
  simp only [trimZ, List.getD, List.getElem?_take]
  split <;> rfl
theorem trimZ_trd {zs : List Int} (h : zs ≠ []) : Trd (trimZ zs) := by
  have h0 : 0 < zs.length := List.length_pos_iff.2 h
  have h1 : 1 ≤ trimN zs := trimTo_pos (by omega)
  refine ⟨by rw [trimZ_length]; exact h1, ?_⟩
  rw [trimZ_length]
  by_cases h2 : trimN zs ≤ 1
  · exact .inl h2
  · right
    rw [trimZ_get, if_pos (by omega)]
    exact trimTo_last (by unfold trimN at h2; omega)
theorem trimS_trd (zs : List Int) : Trd (trimS zs) := by
  unfold trimS
  split
  · exact ⟨by simp, .inl (by simp)⟩
  · rename_i h; exact trimZ_trd h
theorem trimZ_ov {m : Int} {zs : List Int} (h : OvI m zs) : OvI m (trimZ zs) := fun i => by
  rw [trimZ_get]
  have := h i
  split
  · exact this
  · have := h i; constructor <;> omega
theorem trimS_ov {m : Int} {zs : List Int} (hm : 0 < m) (h : OvI m zs) : OvI m (trimS zs) := by
  unfold trimS
  split
  · intro i
    cases i with
    | zero => simpa using hm
    | succ i => simpa using hm
  · exact trimZ_ov h
theorem trimS_eq {zs : List Int} (h : zs ≠ []) : trimS zs = trimZ zs := if_neg h
theorem mods_get {m : Int} (zs : List Int) (i : Nat) : (modsZ m zs).getD i 0 = zs.getD i 0 % m := by
  simp only [modsZ, List.getD, List.getElem?_map]
  cases zs[i]? <;> simp
theorem mods_ov {m : Int} (hm : 0 < m) (zs : List Int) : OvI m (modsZ m zs) := fun i => by
  rw [mods_get]
  exact ⟨Int.emod_nonneg _ (by omega), Int.emod_lt_of_pos _ hm⟩
theorem mods_ne {m : Int} {zs : List Int} (h : zs ≠ []) : modsZ m zs ≠ [] := by simpa [modsZ] using h
/-- Terms beyond a bound being zero, the cut there trims to the same. -/
theorem trimTo_down {zs : List Int} {n : Nat} (h1 : 1 ≤ n) : ∀ d, (∀ j, n ≤ j → zs.getD j 0 = 0) → trimTo zs (n + d) = trimTo zs n
  | 0, _ => rfl
  | d + 1, h => by rw [trimTo_step (by omega) (h _ (by omega)), show n + (d + 1) - 1 = n + d by omega, trimTo_down h1 d h]
theorem trimTo_take {zs : List Int} {n : Nat} : ∀ {k}, k ≤ n → trimTo (zs.take n) k = trimTo zs k
  | 0, _ => rfl
  | 1, _ => rfl
  | k + 2, h => by
    have e : (zs.take n).getD (k + 1) 0 = zs.getD (k + 1) 0 := by simp [List.getD, List.getElem?_take, show k + 1 < n by omega]
    simp only [trimTo, e]
    rw [trimTo_take (by omega)]
theorem trimZ_cut {zs : List Int} {n : Nat} (h1 : 1 ≤ n) (hn : n ≤ zs.length) (h : ∀ j, n ≤ j → zs.getD j 0 = 0) : trimZ (zs.take n) = trimZ zs := by
  have e : trimN zs = trimN (zs.take n) := by
    unfold trimN
    rw [List.length_take, Nat.min_eq_left hn, trimTo_take (Nat.le_refl _), show zs.length = n + (zs.length - n) by omega, trimTo_down h1 _ h]
  have e2 : trimN (zs.take n) ≤ n := by have := trimN_le (zs.take n); simp at this; omega
  rw [trimZ, trimZ, ← e, List.take_take, Nat.min_eq_left (by omega)]
theorem trimZ_zero {zs : List Int} (hn : zs ≠ []) (h : ∀ j, zs.getD j 0 = 0) : trimZ zs = [0] := by
  have h0 : 0 < zs.length := List.length_pos_iff.2 hn
  have e : trimN zs = 1 := by
    unfold trimN
    rw [show zs.length = 1 + (zs.length - 1) by omega, trimTo_down (Nat.le_refl _) _ (fun j _ => h j)]
    rfl
  rw [trimZ, e]
  match zs, hn, h 0 with
  | z :: _, _, h => simp at h; simp [h]

/-! The division. -/
def divAt (m : Int) (l : List Int) (p : Nat) (d : Int) : List Int := l.set p ((l.getD p 0 - d) % m)
def subRow (q : Int) (b : List Int) (m : Int) (k : Nat) (l : List Int) : Nat → List Int
  | 0 => l
  | j + 1 => divAt m (subRow q b m k l j) (k + j) (q * b.getD j 0)
def divQ (b : List Int) (m inv : Int) (k : Nat) (l : List Int) : Int := (l.getD (k + (b.length - 1)) 0 * inv) % m
def divGo (b : List Int) (m inv : Int) : Nat → List Int × List Int → List Int × List Int
  | 0, s => s
  | k + 1, s => divGo b m inv k (subRow (divQ b m inv k s.1) b m k s.1 b.length, s.2.set k (divQ b m inv k s.1))
/-- What is left, and the quotient. -/
def divLO (a b : List Int) (m : Int) : List Int × List Int := divGo b m (invZ (lastZ b) m) (a.length - b.length + 1) (a, List.replicate (a.length - b.length + 1) 0)
def divF (a b : List Int) (m : Int) : List Int × List Int :=
  if a.length < b.length then ([0], a) else (trimZ (divLO a b m).2, if b.length = 1 then [0] else trimZ ((divLO a b m).1.take (b.length - 1)))
def divS (a b : List Int) (m : Int) : List Int × List Int :=
  if a.length < b.length then ([0], trimS a) else (trimS (divLO a b m).2, trimS (divLO a b m).1)

theorem divAt_length (m : Int) (l : List Int) (p : Nat) (d : Int) : (divAt m l p d).length = l.length := by simp [divAt]
theorem divAt_get {m : Int} {l : List Int} {p : Nat} {d : Int} (q : Nat) (hp : p < l.length) : (divAt m l p d).getD q 0 = if q = p then (l.getD p 0 - d) % m else l.getD q 0 := by
  by_cases e : q = p
  · subst e; simp [divAt, List.getD, hp]
  · rw [if_neg e, divAt]
    simp only [List.getD]
    rw [List.getElem?_set_ne (by omega)]
theorem subRow_length (q : Int) (b : List Int) (m : Int) (k : Nat) (l : List Int) : ∀ j, (subRow q b m k l j).length = l.length
  | 0 => rfl
  | j + 1 => by rw [subRow, divAt_length, subRow_length q b m k l j]
theorem subRow_ov {q : Int} {b : List Int} {m : Int} {k : Nat} {l : List Int} (hm : 0 < m) (hl : OvI m l) (hk : k + b.length ≤ l.length) : ∀ j, j ≤ b.length → OvI m (subRow q b m k l j)
  | 0, _ => hl
  | j + 1, hj => fun i => by
    rw [subRow, divAt_get _ (by rw [subRow_length]; omega)]
    split
    · exact ⟨Int.emod_nonneg _ (by omega), Int.emod_lt_of_pos _ hm⟩
    · exact subRow_ov hm hl hk j (by omega) i
theorem subRow_get {q : Int} {b : List Int} {m : Int} {k : Nat} {l : List Int} (hk : k + b.length ≤ l.length) (p : Nat) : ∀ j, j ≤ b.length → (subRow q b m k l j).getD p 0 = if k ≤ p ∧ p < k + j then (l.getD p 0 - q * b.getD (p - k) 0) % m else l.getD p 0
  | 0, _ => by rw [if_neg (by omega)]; rfl
  | j + 1, hj => by
    rw [subRow, divAt_get _ (by rw [subRow_length]; omega)]
    by_cases e : p = k + j
    · subst e
      rw [if_pos rfl, if_pos (by omega), subRow_get hk (k + j) j (by omega), if_neg (by omega), show k + j - k = j by omega]
    · rw [if_neg e, subRow_get hk p j (by omega)]
      by_cases e2 : k ≤ p ∧ p < k + j
      · rw [if_pos e2, if_pos (by omega)]
      · rw [if_neg e2, if_neg (by omega)]

theorem inv_all : ∀ m ∈ ([2, 3, 5, 7, 11, 13] : List Int), ∀ x ∈ (List.range 13), (0 < x ∧ (x : Int) < m) → ((x : Int) * invZ x m) % m = 1 := by decide +kernel
theorem inv_mul {m x : Int} (hm : primeB m = true) (h1 : 0 < x) (h2 : x < m) : (x * invZ x m) % m = 1 := by
  have hm' := primeB_iff.1 hm
  have h := inv_all m (by simpa using hm') x.toNat (by rw [List.mem_range]; omega) (by omega)
  rwa [show ((x.toNat : Nat) : Int) = x by omega] at h
theorem primeB_bd {m : Int} (hm : primeB m = true) : 2 ≤ m ∧ m ≤ 13 := by
  have := primeB_iff.1 hm
  omega

/-- After a step the highest term of what is left is zero. -/
theorem step_top {m x l : Int} (hm : primeB m = true) (h1 : 0 < x) (h2 : x < m) : (l - (l * invZ x m) % m * x) % m = 0 := by
  have h := inv_mul hm h1 h2
  have e : (l - (l * invZ x m) % m * x) % m = (l - l * (x * invZ x m)) % m := by
    rw [Int.sub_emod, Int.mul_emod, Int.emod_emod, ← Int.mul_emod, ← Int.sub_emod]
    congr 2
    rw [Int.mul_comm x, Int.mul_assoc]
  rw [e, Int.sub_emod, Int.mul_emod, h, Int.mul_one, Int.emod_emod, Int.sub_self, Int.zero_emod]

/-- What is left is made of remainders, and zero from where the steps have been. -/
theorem divGo_left {b : List Int} {m : Int} (hm : primeB m = true) (hb : OvI m b) (hb0 : b ≠ []) (hl : lastZ b ≠ 0) :
    ∀ (k : Nat) (s : List Int × List Int), OvI m s.1 → k + b.length ≤ s.1.length + 1 → (∀ j, k + (b.length - 1) ≤ j → s.1.getD j 0 = 0) →
      OvI m (divGo b m (invZ (lastZ b) m) k s).1 ∧ (∀ j, b.length - 1 ≤ j → (divGo b m (invZ (lastZ b) m) k s).1.getD j 0 = 0) ∧ (divGo b m (invZ (lastZ b) m) k s).1.length = s.1.length ∧ (divGo b m (invZ (lastZ b) m) k s).2.length = s.2.length
  | 0, s, ho, _, hz => ⟨ho, fun j hj => hz j (by omega), rfl, rfl⟩
  | k + 1, s, ho, hk, hz => by
    have hb1 : 0 < b.length := List.length_pos_iff.2 hb0
    have hmp := primeB_bd hm
    have h := divGo_left hm hb hb0 hl k (subRow (divQ b m (invZ (lastZ b) m) k s.1) b m k s.1 b.length, s.2.set k (divQ b m (invZ (lastZ b) m) k s.1))
      (subRow_ov (by omega) ho (by omega) _ (Nat.le_refl _)) (by simp only [subRow_length]; omega)
      (fun j hj => by
        simp only
        rw [subRow_get (by omega) _ _ (Nat.le_refl _)]
        by_cases e : j = k + (b.length - 1)
        · subst e
          rw [if_pos (by omega), show k + (b.length - 1) - k = b.length - 1 by omega]
          have hx := hb (b.length - 1)
          have hx2 : b.getD (b.length - 1) 0 = lastZ b := rfl
          rw [hx2] at hx ⊢
          exact step_top hm (by omega) hx.2
        · rw [if_neg (by omega)]
          exact hz j (by omega))
    simp only [subRow_length, List.length_set] at h
    exact h

theorem divLO_left {a b : List Int} {m : Int} (hm : primeB m = true) (ha : OvI m a) (hb : OvI m b) (hbt : b ≠ []) (hl : lastZ b ≠ 0) (hab : b.length ≤ a.length) :
    OvI m (divLO a b m).1 ∧ (∀ j, b.length - 1 ≤ j → (divLO a b m).1.getD j 0 = 0) ∧ (divLO a b m).1.length = a.length ∧ (divLO a b m).2.length = a.length - b.length + 1 := by
  have h := divGo_left hm hb hbt hl (a.length - b.length + 1) (a, List.replicate (a.length - b.length + 1) 0) ha (by simp only; omega) (fun j hj => by
    have hb1 : 0 < b.length := List.length_pos_iff.2 hbt
    simp [List.getD, List.getElem?_eq_none (show a.length ≤ j by omega)])
  simp only [List.length_replicate] at h
  exact h

theorem divF_eq {a b : List Int} {m : Int} (hm : primeB m = true) (ha : OvI m a) (hat : Trd a) (hb : OvI m b) (hbt : b ≠ []) (hl : lastZ b ≠ 0) : divF a b m = divS a b m := by
  unfold divF divS
  split
  · rw [hat.trimS]
  · rename_i hab
    have h := divLO_left hm ha hb hbt hl (by omega)
    have hb1 : 0 < b.length := List.length_pos_iff.2 hbt
    have e1 : (divLO a b m).2 ≠ [] := List.ne_nil_of_length_pos (by rw [h.2.2.2]; omega)
    have e2 : (divLO a b m).1 ≠ [] := List.ne_nil_of_length_pos (by rw [h.2.2.1]; omega)
    rw [trimS_eq e1, trimS_eq e2]
    congr 1
    split
    · rename_i h1
      exact (trimZ_zero e2 (fun j => h.2.1 j (by omega))).symm
    · rename_i h1
      exact trimZ_cut (by omega) (by rw [h.2.2.1]; omega) h.2.1

end Go.Proofs.Ytlnjkjogedbhfaa
