/- Square-free parts: plain laws. Conditions: none. -/
import Derived.Test.YtlnjkjogedbhfaaI30
import Derived.Test.YtlnjkjogedbhfaaI28
namespace Go.Proofs.Ytlnjkjogedbhfaa
open Go Go.RowKit
set_option linter.unusedSimpArgs false
set_option linter.unusedVariables false

theorem giveF_true {zs y : List Int} (h : giveF zs = (y, true)) : y = zs ∧ Vld y := by
  unfold giveF at h
  split at h
  · rename_i hv
    simp only [Prod.mk.injEq, and_true] at h
    subst h
    exact ⟨rfl, validB_iff.1 hv⟩
  · simp at h
theorem commonW_true {a b y : List Int} (h : commonW a b = (y, true)) : Vld a ∧ Vld b ∧ ∃ g, greatZ a b = some g ∧ y = trimZ g ∧ Vld y := by
  cases hv : validB a && validB b
  · rw [commonW_no hv] at h; simp at h
  · rw [commonW_eq hv] at h
    simp only [Bool.and_eq_true] at hv
    refine ⟨validB_iff.1 hv.1, validB_iff.1 hv.2, ?_⟩
    cases hg : greatZ a b with
    | none => rw [hg] at h; simp at h
    | some g =>
      rw [hg] at h
      have h2 := giveF_true h
      exact ⟨g, rfl, h2.1, h2.2⟩
theorem trimZ_le (zs : List Int) : (trimZ zs).length ≤ zs.length := by rw [trimZ_length]; exact trimTo_le _ _
theorem nz_len {zs : List Int} (h : Vld zs) (hz : zeroB zs = false) : 1 ≤ meas zs := by
  have := List.length_pos_iff.2 h.ne
  unfold meas; rw [hz]; simp; omega
theorem gwZ_len : ∀ {n : Nat} {a b g : List Int}, meas b ≤ n → Vld a → Vld b → zeroB b = false → gwZ n a b = some g → g.length ≤ b.length
  | 0, a, b, g, h, _, hb, hz, _ => by have := nz_len hb hz; omega
  | n + 1, a, b, g, h, ha, hb, hz, hg => by
    cases hr : restZ a b with
    | none => rw [gwZ_none hz hr] at hg; cases hg
    | some r =>
      rw [gwZ_go hz hr] at hg
      have h1 := restZ_vld hb.ne (Nat.lt_succ_self _) ha hr
      cases hzr : zeroB r
      · have h2 : r.length < b.length := by
          rcases h1.2 with h | h
          · rw [hzr] at h; cases h
          · exact h
        have h3 := (prim_meas hz h1.1.trd h1.2).resolve_right hb.ne
        have h4 := gwZ_len (by omega) hb (prim_vld h1.1) (prim_zero h1.1.trd hzr) hg
        rw [prim_length h1.1.trd] at h4
        omega
      · rw [zeroB_prim hzr, gwZ_stop (by rfl)] at hg
        cases hg
        exact Nat.le_refl _
theorem great_le {a b g : List Int} (ha : Vld a) (hb : Vld b) (hza : zeroB a = false) (hzb : zeroB b = false) (h : greatZ a b = some g) : g.length ≤ a.length ∧ g.length ≤ b.length := by
  unfold greatZ at h
  cases hg : gcdW (pairZ (primZ a) (primZ b)).1 (pairZ (primZ a) (primZ b)).2 with
  | none => rw [hg] at h; cases h
  | some x =>
    rw [hg] at h
    simp only [Option.map_some, Option.some.injEq] at h
    subst h
    rw [timesZ, List.length_map]
    have la := prim_length ha.trd
    have lb := prim_length hb.trd
    have za := prim_zero ha.trd hza
    have zb := prim_zero hb.trd hzb
    unfold pairZ at hg
    split at hg
    · rename_i hc
      have hlt : (primZ a).length < (primZ b).length := by
        rcases hc with h | h
        · exact h
        · rw [za] at h; cases h
      have := gwZ_len (meas17 (prim_vld ha)) (prim_vld hb) (prim_vld ha) za hg
      omega
    · rename_i hc
      have hle : (primZ b).length ≤ (primZ a).length := by
        rcases Nat.lt_or_ge (primZ a).length (primZ b).length with h | h
        · exact absurd (.inl h) hc
        · exact h
      have := gwZ_len (meas17 (prim_vld hb)) (prim_vld ha) (prim_vld hb) zb hg
      omega
theorem eqGo_keep {b : List Int} : ∀ (k : Nat) {L O L' O' : List Int}, eqGo b k (L, O) = some (L', O') → k ≤ O.length → ∀ i, k ≤ i → O'.getD i 0 = O.getD i 0
  | 0, L, O, L', O', h, _, i, _ => by simp only [eqGo, Option.some.injEq, Prod.mk.injEq] at h; rw [h.2]
  | k + 1, L, O, L', O', h, hk, i, hi => by
    unfold eqGo at h
    split at h
    · split at h
      · have h2 := eqGo_keep k h (by simp only [List.length_set]; omega) i (by omega)
        rw [h2]
        simp only
        rw [set_getD _ _ _ _ (by omega), if_neg (by omega)]
      · cases h
    · cases h
theorem eqGo_top {b : List Int} {k : Nat} {L O L' O' : List Int} (h : eqGo b (k + 1) (L, O) = some (L', O')) (hk : k + 1 ≤ O.length) :
    (L.getD (k + b.length - 1) 0).tmod (lastZ b) = 0 ∧ O'.getD k 0 = (L.getD (k + b.length - 1) 0).tdiv (lastZ b) := by
  unfold eqGo at h
  split at h
  · rename_i h1
    split at h
    · have h2 := eqGo_keep k h (by simp only [List.length_set]; omega) k (Nat.le_refl _)
      simp only at h2
      rw [set_getD _ _ _ _ (by omega), if_pos rfl] at h2
      exact ⟨h1, h2⟩
    · cases h
  · cases h
theorem quoR_true {a b o : List Int} (h : quoR a b = (o, true)) : Vld a ∧ Vld b ∧ zeroB b = false ∧ Vld o ∧ (zeroB a = false → zeroB o = false ∧ b.length ≤ a.length ∧ o.length ≤ a.length - b.length + 1) := by
  cases hv : validB a && validB b && !zeroB b
  · rw [quoR_no hv] at h; simp at h
  · rw [quoR_yes hv] at h
    simp only [Bool.and_eq_true, Bool.not_eq_true'] at hv
    have va := validB_iff.1 hv.1.1
    have vb := validB_iff.1 hv.1.2
    cases hq : quoZ a b with
    | none => rw [hq] at h; simp at h
    | some o' =>
      rw [hq] at h
      have h2 := giveF_true h
      refine ⟨va, vb, hv.2, h2.2, fun hza => ?_⟩
      unfold quoZ at hq
      rw [hza] at hq
      simp only [Bool.false_eq_true, if_false] at hq
      split at hq
      · cases hq
      · rename_i hab
        split at hq
        · cases hq
        · rename_i r o2 he
          split at hq
          · cases hq
            have hb1 := List.length_pos_iff.2 vb.ne
            have hlen := (eqGo_len _ he).2
            simp only [List.length_replicate] at hlen
            have ht := eqGo_top he (by simp)
            have e : a.length - b.length + b.length - 1 = a.length - 1 := by omega
            rw [e] at ht
            have hla : a.getD (a.length - 1) 0 ≠ 0 := va.trd.last hza
            have hlb : lastZ b ≠ 0 := vb.trd.last hv.2
            have hne : o'.getD (a.length - b.length) 0 ≠ 0 := by
              rw [ht.2]
              intro h0
              have := Int.tmod_add_mul_tdiv (a.getD (a.length - 1) 0) (lastZ b)
              rw [ht.1, h0] at this
              simp at this
              exact hla this.symm
            have htr : Trd o' := ⟨by omega, .inr (by rw [hlen]; simpa using hne)⟩
            have ho : o = o' := by rw [h2.1, htr.trimZ]
            refine ⟨?_, by omega, by rw [ho]; omega⟩
            cases hz : zeroB o
            · rfl
            · exfalso
              rw [ho] at hz
              have h3 := zeroB_iff.1 hz
              rw [h3] at hlen hne
              simp only [List.length_singleton] at hlen
              have e2 : a.length - b.length = 0 := by omega
              rw [e2] at hne
              exact hne rfl
          · cases hq

/-- What gets smaller from round to round. -/
def sqM (w c : List Int) : Nat := if w.length ≤ 1 then 0 else w.length + c.length
def sqY (w c : List Int) : List Int := (commonW w c).1
def sqC (w c : List Int) : List Int := (quoR c (sqY w c)).1
def sqP (w c : List Int) : List Int := (quoR w (sqY w c)).1
def sqOk (w c : List Int) : Bool := (commonW w c).2 && (quoR w (sqY w c)).2 && (quoR c (sqY w c)).2
def sqZ (w c : List Int) (acc : List (List Int)) : Option (List (List Int)) :=
  if w.length ≤ 1 then some acc else if sqOk w c = true then (if h : sqM (sqY w c) (sqC w c) < sqM w c then sqZ (sqY w c) (sqC w c) (acc ++ [sqP w c]) else none) else none
termination_by sqM w c
theorem sqZ_stop {w c : List Int} {acc : List (List Int)} (h : w.length ≤ 1) : sqZ w c acc = some acc := by rw [sqZ, if_pos h]
theorem sqZ_none {w c : List Int} {acc : List (List Int)} (h : ¬ w.length ≤ 1) (ho : sqOk w c = false) : sqZ w c acc = none := by rw [sqZ, if_neg h, if_neg (by rw [ho]; simp)]
theorem sq_step {w c : List Int} (h : ¬ w.length ≤ 1) (hzc : zeroB c = false) (ho : sqOk w c = true) :
    sqM (sqY w c) (sqC w c) < sqM w c ∧ Vld (sqY w c) ∧ Vld (sqC w c) ∧ zeroB (sqC w c) = false ∧ Vld (sqP w c) := by
  simp only [sqOk, Bool.and_eq_true] at ho
  obtain ⟨⟨h1, h2⟩, h3⟩ := ho
  have e1 : commonW w c = (sqY w c, true) := by rw [sqY, ← h1]
  have e2 : quoR w (sqY w c) = (sqP w c, true) := by rw [sqP, ← h2]
  have e3 : quoR c (sqY w c) = (sqC w c, true) := by rw [sqC, ← h3]
  obtain ⟨vw, vc, g, hg, hy, vy⟩ := commonW_true e1
  obtain ⟨_, _, _, vp, _⟩ := quoR_true e2
  obtain ⟨_, _, _, vc2, h4⟩ := quoR_true e3
  obtain ⟨h5, h6, h7⟩ := h4 hzc
  have hzw : zeroB w = false := by
    cases hz : zeroB w
    · rfl
    · rw [zeroB_iff.1 hz] at h; simp at h
  have h8 := great_le vw vc hzw hzc hg
  have h9 : (sqY w c).length ≤ g.length := by rw [hy]; exact trimZ_le g
  refine ⟨?_, vy, vc2, h5, vp⟩
  unfold sqM
  rw [if_neg h]
  split <;> omega
theorem sqZ_go {w c : List Int} {acc : List (List Int)} (h : ¬ w.length ≤ 1) (hzc : zeroB c = false) (ho : sqOk w c = true) : sqZ w c acc = sqZ (sqY w c) (sqC w c) (acc ++ [sqP w c]) := by
  rw [sqZ, if_neg h, if_pos ho, dif_pos (sq_step h hzc ho).1]
theorem getD_app {ls : List (List Int)} {zs : List Int} (M : Nat) (h : ∀ i, (ls.getD i []).length ≤ M) (hz : zs.length ≤ M) (i : Nat) : ((ls ++ [zs]).getD i []).length ≤ M := by
  simp only [List.getD] at h ⊢
  rcases Nat.lt_trichotomy i ls.length with h1 | h1 | h1
  · rw [List.getElem?_append_left h1]; exact h i
  · subst h1; rw [List.getElem?_append_right (Nat.le_refl _)]; simpa using hz
  · rw [List.getElem?_append_right (by omega), List.getElem?_eq_none (by simp; omega)]; simp
theorem sqZ_len : ∀ {n : Nat} {w c : List Int} {acc ls : List (List Int)}, sqM w c < n → zeroB c = false → acc.length + sqM w c ≤ 40 → (∀ i, (acc.getD i []).length ≤ 17) → sqZ w c acc = some ls → ls.length ≤ 40 ∧ ∀ i, (ls.getD i []).length ≤ 17
  | 0, _, _, _, _, h, _, _, _, _ => absurd h (by omega)
  | n + 1, w, c, acc, ls, hn, hzc, hl, hi, h => by
    by_cases hw : w.length ≤ 1
    · rw [sqZ_stop hw] at h; cases h; exact ⟨by omega, hi⟩
    · cases ho : sqOk w c
      · rw [sqZ_none hw ho] at h; cases h
      · rw [sqZ_go hw hzc ho] at h
        obtain ⟨h1, h2, h3, h4, h5⟩ := sq_step hw hzc ho
        exact sqZ_len (by omega) h4 (by rw [List.length_append, List.length_singleton]; omega) (getD_app 17 hi h5.len) h
/-- The square-free parts of a whole; none if there are none, or a number becomes too great. -/
def sqQ (p : List Int) : List Int := primZ p
def sqS (p : List Int) : List Int := (slopeR (sqQ p)).1
def sqC0 (p : List Int) : List Int := (commonW (sqQ p) (sqS p)).1
def sqW0 (p : List Int) : List Int := (quoR (sqQ p) (sqC0 p)).1
def sqfree (p : List Int) : Option (List (List Int)) :=
  if (validB p && decide (2 ≤ p.length)) = true then
    if (slopeR (sqQ p)).2 = true then
      if (commonW (sqQ p) (sqS p)).2 = true then
        if (quoR (sqQ p) (sqC0 p)).2 = true then sqZ (sqW0 p) (sqC0 p) [] else none
      else none
    else none
  else none
theorem sqfree_len {p : List Int} : ((sqfree p).getD []).length ≤ 40 ∧ ∀ i, (((sqfree p).getD []).getD i []).length ≤ 17 := by
  have h0 : ([] : List (List Int)).length ≤ 40 ∧ ∀ i, (([] : List (List Int)).getD i []).length ≤ 17 := ⟨by simp, fun i => by simp⟩
  cases hs : sqfree p with
  | none => exact h0
  | some ls =>
    unfold sqfree at hs
    split at hs
    · split at hs
      · split at hs
        · split at hs
          · rename_i h1
            have e : quoR (sqQ p) (sqC0 p) = (sqW0 p, true) := by rw [sqW0, ← h1]
            obtain ⟨_, vc, zc, vw, _⟩ := quoR_true e
            have := vc.len
            have := vw.len
            exact sqZ_len (Nat.lt_succ_self _) zc (by unfold sqM; split <;> simp <;> omega) h0.2 hs
          · cases hs
        · cases hs
      · cases hs
    · cases hs

end Go.Proofs.Ytlnjkjogedbhfaa
