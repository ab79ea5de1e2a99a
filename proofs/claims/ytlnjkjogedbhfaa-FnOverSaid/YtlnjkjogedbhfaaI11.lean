/- Common divisors over a prime: plain laws; monic lists. Conditions: terms are remainders of a small prime, lengths of at most 100. -/
import Derived.Test.YtlnjkjogedbhfaaI10
namespace Go.Proofs.Ytlnjkjogedbhfaa
open Go Go.RowKit
set_option linter.unusedSimpArgs false
set_option linter.unusedVariables false

/-- The list of the first values of a function. -/
def buildZ (E : Nat → Int) (k : Nat) : List Int := (List.range k).map E
theorem buildZ_length (E : Nat → Int) (k : Nat) : (buildZ E k).length = k := by simp [buildZ]
theorem buildZ_succ (E : Nat → Int) (k : Nat) : buildZ E k ++ [E k] = buildZ E (k + 1) := by simp [buildZ, List.range_succ]
theorem buildZ_get (E : Nat → Int) (k i : Nat) : (buildZ E k).getD i 0 = if i < k then E i else 0 := by
  unfold buildZ
  simp only [List.getD, List.getElem?_map]
  by_cases h : i < k
  · rw [List.getElem?_range h, if_pos h]; rfl
  · rw [List.getElem?_eq_none (by simpa using h), if_neg h]; rfl
theorem ext_getD {xs ys : List Int} (hl : xs.length = ys.length) (h : ∀ i, xs.getD i 0 = ys.getD i 0) : xs = ys := by
  apply List.ext_getElem hl
  intro i h1 h2
  have := h i
  simpa [List.getD, h1, h2] using this
theorem build_map (f : Int → Int) (zs : List Int) : buildZ (fun k => f (zs.getD k 0)) zs.length = zs.map f := by
  apply List.ext_getElem
  · simp [buildZ]
  · intro i h1 h2
    have h3 : i < zs.length := by simpa using h2
    simp [buildZ, List.getD, h3]

/-! Monic lists. -/
def scaleZ (c m : Int) (zs : List Int) : List Int := zs.map fun z => (z * c) % m
theorem scale_get {c m : Int} (zs : List Int) (i : Nat) : (scaleZ c m zs).getD i 0 = (zs.getD i 0 * c) % m := by
  simp only [scaleZ, List.getD, List.getElem?_map]
  cases zs[i]? <;> simp
theorem scale_length (c m : Int) (zs : List Int) : (scaleZ c m zs).length = zs.length := by simp [scaleZ]
theorem scale_ov {m : Int} (hm : 0 < m) (c : Int) (zs : List Int) : OvI m (scaleZ c m zs) := fun i => by
  rw [scale_get]
  exact ⟨Int.emod_nonneg _ (by omega), Int.emod_lt_of_pos _ hm⟩
def monicF (m : Int) (zs : List Int) : List Int := trimZ (scaleZ (invZ (lastZ zs) m) m zs)
def monicS (m : Int) (zs : List Int) : List Int := if zeroB zs then zs else scaleZ (invZ (lastZ zs) m) m zs
theorem zeroB_iff {zs : List Int} : zeroB zs = true ↔ zs = [0] := by
  match zs with
  | [] => simp [zeroB]
  | [z] => simp [zeroB]
  | _ :: _ :: _ => simp [zeroB]
theorem Trd.last {zs : List Int} (h : Trd zs) (hz : zeroB zs = false) : lastZ zs ≠ 0 := by
  rcases h.2 with h1 | h1
  · have hl : zs.length = 1 := by have := h.1; omega
    intro h2
    have : zs.getD 0 0 = 0 := by simpa [lastZ, hl] using h2
    match zs, hl, this with
    | [z], _, h3 => simp at h3; subst h3; simp [zeroB] at hz
  · exact h1
theorem scale_last {m : Int} {zs : List Int} (hm : primeB m = true) (hov : OvI m zs) (ht : Trd zs) (hz : zeroB zs = false) : (scaleZ (invZ (lastZ zs) m) m zs).getD (zs.length - 1) 0 = 1 := by
  rw [scale_get]
  have h1 := ht.last hz
  have h2 := hov (zs.length - 1)
  exact inv_mul hm (by unfold lastZ at h1; omega) h2.2
theorem scale_trd {m : Int} {zs : List Int} (hm : primeB m = true) (hov : OvI m zs) (ht : Trd zs) (hz : zeroB zs = false) : Trd (scaleZ (invZ (lastZ zs) m) m zs) := by
  refine ⟨by rw [scale_length]; exact ht.1, .inr ?_⟩
  rw [scale_length, scale_last hm hov ht hz]
  decide
theorem monic_eq {m : Int} {zs : List Int} (hm : primeB m = true) (hov : OvI m zs) (ht : Trd zs) : monicF m zs = monicS m zs := by
  unfold monicF monicS
  cases hz : zeroB zs
  · rw [if_neg (by simp), (scale_trd hm hov ht hz).trimZ]
  · obtain rfl := zeroB_iff.1 hz
    rw [if_pos rfl]
    exact trimZ_zero (by simp [scaleZ]) (fun j => by rw [scale_get]; cases j <;> simp)
theorem monicS_length (m : Int) (zs : List Int) : (monicS m zs).length = zs.length := by
  unfold monicS; split
  · rfl
  · exact scale_length _ _ _
theorem monicS_ov {m : Int} {zs : List Int} (hm : primeB m = true) (hov : OvI m zs) : OvI m (monicS m zs) := by
  unfold monicS; split
  · exact hov
  · exact scale_ov (by have := primeB_bd hm; omega) _ _
theorem monicS_trd {m : Int} {zs : List Int} (hm : primeB m = true) (hov : OvI m zs) (ht : Trd zs) : Trd (monicS m zs) := by
  cases hz : zeroB zs
  · unfold monicS; rw [hz]; exact scale_trd hm hov ht hz
  · unfold monicS; rw [hz]; exact ht

/-! Greatest common ones. -/
def meas (zs : List Int) : Nat := if zeroB zs then 0 else zs.length
theorem divF_rest_length (a b : List Int) (m : Int) (hb : b ≠ []) (hz : zeroB b = false) : meas (divF a b m).2 < meas b := by
  have hb1 : 0 < b.length := List.length_pos_iff.2 hb
  have e : meas b = b.length := by unfold meas; rw [hz]; rfl
  have hl : ∀ zs : List Int, meas zs ≤ zs.length := fun zs => by unfold meas; split <;> omega
  rw [e]
  unfold divF
  split
  · have := hl a; simp only; omega
  · simp only
    split
    · simp [meas, zeroB]; omega
    · have h1 := hl (trimZ ((divLO a b m).1.take (b.length - 1)))
      have h2 : (trimZ ((divLO a b m).1.take (b.length - 1))).length ≤ b.length - 1 := by
        rw [trimZ_length]
        have := trimN_le ((divLO a b m).1.take (b.length - 1))
        simp at this
        omega
      omega
def gcdZ (m : Int) (a b : List Int) : List Int :=
  if h : b ≠ [] ∧ zeroB b = false then gcdZ m b (divF a b m).2 else a
  termination_by meas b
  decreasing_by exact divF_rest_length a b m h.1 h.2
theorem gcdZ_step {m : Int} {a b : List Int} (hb : b ≠ []) (hz : zeroB b = false) : gcdZ m a b = gcdZ m b (divF a b m).2 := by
  rw [gcdZ, dif_pos ⟨hb, hz⟩]
theorem gcdZ_stop {m : Int} {a b : List Int} (hz : zeroB b = true) : gcdZ m a b = a := by
  rw [gcdZ, dif_neg (by rw [hz]; simp)]

theorem OvI.set {m : Int} {zs : List Int} (h : OvI m zs) {q : Int} (hq : 0 ≤ q ∧ q < m) (k : Nat) : OvI m (zs.set k q) := fun i => by
  have := h i
  simp only [List.getD] at this ⊢
  by_cases e : i = k
  · subst e
    rw [List.getElem?_set_self']
    cases h2 : zs[i]? with
    | none => rw [h2] at this; simpa using this
    | some z => simpa using hq
  · rw [List.getElem?_set_ne (by omega)]; exact this
theorem divGo_quot {b : List Int} {m inv : Int} (hm : 0 < m) : ∀ (k : Nat) (s : List Int × List Int), OvI m s.2 → OvI m (divGo b m inv k s).2
  | 0, s, h => h
  | k + 1, s, h => divGo_quot hm k _ (h.set ⟨Int.emod_nonneg _ (by omega), Int.emod_lt_of_pos _ hm⟩ k)
theorem divLO_quot {a b : List Int} {m : Int} (hm : primeB m = true) : OvI m (divLO a b m).2 :=
  divGo_quot (by have := primeB_bd hm; omega) _ _ (fun i => by
    have := primeB_bd hm
    simp only [List.getD, List.getElem?_replicate]
    split <;> simp <;> omega)

/-- A list over a prime, as the texts keep them. -/
def Ovr (m : Int) (zs : List Int) : Prop := OvI m zs ∧ Trd zs ∧ zs.length ≤ 100
theorem Ovr.ne {m : Int} {zs : List Int} (h : Ovr m zs) : zs ≠ [] := h.2.1.ne
theorem Ovr.ov {m : Int} {zs : List Int} (h : Ovr m zs) : OvI m zs := h.1
theorem Ovr.trd {m : Int} {zs : List Int} (h : Ovr m zs) : Trd zs := h.2.1
theorem Ovr.len {m : Int} {zs : List Int} (h : Ovr m zs) : zs.length ≤ 100 := h.2.2
theorem divF_ovr {a b : List Int} {m : Int} (hm : primeB m = true) (ha : Ovr m a) (hb : Ovr m b) (hz : zeroB b = false) : Ovr m (divF a b m).1 ∧ Ovr m (divF a b m).2 ∧ ((divF a b m).2.length < b.length ∨ (divF a b m).2.length ≤ 1) ∧ (divF a b m).1.length ≤ a.length := by
  have hmp := primeB_bd hm
  have h0 : Ovr m [0] := ⟨fun i => by cases i <;> simp <;> omega, ⟨by simp, .inl (by simp)⟩, by simp⟩
  have ha1 := ha.2.1.1
  have hb1 := hb.2.1.1
  have ha2 := ha.2.2
  unfold divF
  split
  · rename_i hab
    exact ⟨h0, ha, .inl hab, by simpa using ha1⟩
  · rename_i hab
    have hl := divLO_left hm ha.1 hb.1 hb.ne (hb.2.1.last hz) (by omega)
    have hq : OvI m (divLO a b m).2 := divLO_quot hm
    have hqn : (divLO a b m).2 ≠ [] := by intro h; have := hl.2.2.2; rw [h] at this; simp at this
    have hql : (trimZ (divLO a b m).2).length ≤ a.length := by
      rw [trimZ_length]; have := trimN_le (divLO a b m).2; omega
    refine ⟨⟨trimZ_ov hq, trimZ_trd hqn, by simp only; omega⟩, ?_, ?_, hql⟩
    · simp only
      split
      · exact h0
      · have hn : ((divLO a b m).1.take (b.length - 1)) ≠ [] := by
          intro h
          have h4 := congrArg List.length h
          have h5 := hl.2.2.1
          rw [List.length_take, List.length_nil] at h4
          omega
        refine ⟨trimZ_ov (fun i => ?_), trimZ_trd hn, ?_⟩
        · have h3 := hl.1 i
          simp only [List.getD, List.getElem?_take] at h3 ⊢
          split
          · exact h3
          · simp; omega
        · rw [trimZ_length]
          have := trimN_le ((divLO a b m).1.take (b.length - 1))
          simp at this
          omega
    · simp only
      split
      · right; simp
      · left
        rw [trimZ_length]
        have := trimN_le ((divLO a b m).1.take (b.length - 1))
        simp at this
        omega
theorem divS_ovr {a b : List Int} {m : Int} (hm : primeB m = true) (ha : Ovr m a) (hb : Ovr m b) (hz : zeroB b = false) : divS a b m = divF a b m :=
  (divF_eq hm ha.1 ha.2.1 hb.1 hb.ne (hb.2.1.last hz)).symm
theorem gcdZ_ovr {m : Int} (hm : primeB m = true) : ∀ {n : Nat} {a b : List Int}, meas b < n → Ovr m a → Ovr m b → Ovr m (gcdZ m a b)
  | 0, _, _, h, _, _ => absurd h (by omega)
  | n + 1, a, b, h, ha, hb => by
    cases hz : zeroB b
    · rw [gcdZ_step hb.ne hz]
      have hd := divF_ovr hm ha hb hz
      exact gcdZ_ovr hm (n := n) (by have := divF_rest_length a b m hb.ne hz; omega) hb hd.2.1
    · rw [gcdZ_stop hz]; exact ha

end Go.Proofs.Ytlnjkjogedbhfaa
