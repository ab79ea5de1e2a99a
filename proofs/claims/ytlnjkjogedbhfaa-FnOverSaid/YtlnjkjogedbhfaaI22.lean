/- Rests of wholes and their greatest common one: plain laws. Conditions: none. -/
import Derived.Test.YtlnjkjogedbhfaaI21
namespace Go.Proofs.Ytlnjkjogedbhfaa
open Go Go.RowKit
set_option linter.unusedSimpArgs false
set_option linter.unusedVariables false

/-- One step of a rest: a's highest term away. -/
def stepE (a b : List Int) (k : Nat) : Int := a.getD k 0 * lastZ b - lastZ a * atZ b ((k : Int) - ((a.length : Int) - b.length))
def stepZ (a b : List Int) : List Int := buildZ (stepE a b) a.length
theorem step_top0 {a b : List Int} (ha : a ≠ []) (hb : b ≠ []) (hab : b.length ≤ a.length) : (stepZ a b).getD (a.length - 1) 0 = 0 := by
  have h1 := List.length_pos_iff.2 ha
  have h2 := List.length_pos_iff.2 hb
  rw [stepZ, buildZ_get, if_pos (by omega)]
  have e : (((a.length - 1 : Nat) : Int) - ((a.length : Int) - b.length)) = ((b.length - 1 : Nat) : Int) := by omega
  rw [stepE, e, atZ, if_pos ⟨by omega, by omega⟩, Int.toNat_natCast]
  show lastZ a * lastZ b - lastZ a * lastZ b = 0
  omega
theorem step_meas {a b : List Int} (ha : a ≠ []) (hb : b ≠ []) (hab : b.length ≤ a.length) (hz : zeroB a = false) : meas (trimZ (stepZ a b)) < meas a := by
  have h1 := List.length_pos_iff.2 ha
  have e : meas a = a.length := by unfold meas; rw [hz]; rfl
  rw [e]
  have h0 := step_top0 ha hb hab
  have hl : (stepZ a b).length = a.length := buildZ_length _ _
  by_cases h : a.length = 1
  · have h3 : trimZ (stepZ a b) = [0] := by
      rw [h] at h0 hl
      match stepZ a b, hl, h0 with
      | [z], _, h4 => simp at h4; subst h4; rfl
    rw [h3]
    simp [meas, zeroB]
    omega
  · have h3 : (trimZ (stepZ a b)).length ≤ a.length - 1 := by
      rw [trimZ_length, trimN, hl, show a.length = (a.length - 1) + 1 by omega, trimTo_step (by omega) (by simpa using h0)]
      exact trimTo_le _ _
    have h4 : meas (trimZ (stepZ a b)) ≤ (trimZ (stepZ a b)).length := by unfold meas; split <;> omega
    omega
/-- The rest of a by b; none if a number becomes too great. -/
def restZ (a b : List Int) : Option (List Int) :=
  if h : a ≠ [] ∧ b ≠ [] ∧ b.length ≤ a.length ∧ zeroB a = false then
    if validB (trimZ (stepZ a b)) then restZ (trimZ (stepZ a b)) b else none
  else some a
  termination_by meas a
  decreasing_by exact step_meas h.1 h.2.1 h.2.2.1 h.2.2.2
theorem restZ_go {a b : List Int} (ha : a ≠ []) (hb : b ≠ []) (hab : b.length ≤ a.length) (hz : zeroB a = false) (hv : validB (trimZ (stepZ a b)) = true) : restZ a b = restZ (trimZ (stepZ a b)) b := by
  rw [restZ, dif_pos ⟨ha, hb, hab, hz⟩, if_pos hv]
theorem restZ_none {a b : List Int} (ha : a ≠ []) (hb : b ≠ []) (hab : b.length ≤ a.length) (hz : zeroB a = false) (hv : validB (trimZ (stepZ a b)) = false) : restZ a b = none := by
  rw [restZ, dif_pos ⟨ha, hb, hab, hz⟩, if_neg (by rw [hv]; simp)]
theorem restZ_stop {a b : List Int} (h : zeroB a = true ∨ a.length < b.length) : restZ a b = some a := by
  rw [restZ, dif_neg]
  rintro ⟨_, _, h2, h3⟩
  rcases h with h | h
  · rw [h] at h3; cases h3
  · omega

/-- What a valid whole is. -/
structure Vld (zs : List Int) : Prop where
  trd : Trd zs
  bd : BdI 1000000 zs
  len : zs.length ≤ 17
theorem Vld.ne {zs : List Int} (h : Vld zs) : zs ≠ [] := h.trd.ne
theorem validB_iff {zs : List Int} : validB zs = true ↔ Vld zs := by
  constructor
  · intro h
    have h1 := validB_ne h
    simp only [validB, Bool.and_eq_true, Bool.or_eq_true, decide_eq_true_eq, bne_iff_ne, Bool.not_eq_true'] at h
    refine ⟨⟨h.1.1.1, h.1.2⟩, fun i => ?_, h1.2⟩
    by_cases hi : i < zs.length
    · have h3 := List.any_eq_false.1 h.2 _ (List.getElem_mem hi)
      have e : zs.getD i 0 = zs[i] := by simp [List.getD, hi]
      rw [e]
      simpa [inB] using h3
    · rw [List.getD, List.getElem?_eq_none (by omega)]
      simp
  · intro h
    have h1 := h.trd
    simp only [validB, Bool.and_eq_true, Bool.or_eq_true, decide_eq_true_eq, bne_iff_ne, Bool.not_eq_true']
    refine ⟨⟨⟨h1.1, h.len⟩, h1.2⟩, List.any_eq_false.2 fun z hz => ?_⟩
    obtain ⟨i, hi, rfl⟩ := List.getElem_of_mem hz
    have h2 := h.bd i
    have e : zs.getD i 0 = zs[i] := by simp [List.getD, hi]
    rw [e] at h2
    simpa [inB] using h2
theorem restZ_vld {b : List Int} (hb : b ≠ []) : ∀ {n : Nat} {a r : List Int}, meas a < n → Vld a → restZ a b = some r → Vld r ∧ (zeroB r = true ∨ r.length < b.length)
  | 0, _, _, h, _, _ => absurd h (by omega)
  | n + 1, a, r, h, ha, hr => by
    cases hz : zeroB a
    · by_cases hab : b.length ≤ a.length
      · cases hv : validB (trimZ (stepZ a b))
        · rw [restZ_none ha.ne hb hab hz hv] at hr; cases hr
        · rw [restZ_go ha.ne hb hab hz hv] at hr
          exact restZ_vld hb (n := n) (by have := step_meas ha.ne hb hab hz; omega) (validB_iff.1 hv) hr
      · rw [restZ_stop (.inr (by omega))] at hr
        cases hr
        exact ⟨ha, .inr (by omega)⟩
    · rw [restZ_stop (.inl hz)] at hr
      cases hr
      exact ⟨ha, .inl hz⟩
theorem prim_vld {zs : List Int} (h : Vld zs) : Vld (primZ zs) := ⟨prim_trd h.trd, prim_bd (by omega) h.bd, by rw [prim_length h.trd]; exact h.len⟩
theorem zeroB_prim {zs : List Int} (h : zeroB zs = true) : primZ zs = [0] := by
  obtain rfl := zeroB_iff.1 h
  rfl
theorem prim_meas {b r : List Int} (hz : zeroB b = false) (hr : Trd r) (h : zeroB r = true ∨ r.length < b.length) : meas (primZ r) < meas b ∨ b = [] := by
  by_cases hb : b = []
  · exact .inr hb
  left
  have h1 := List.length_pos_iff.2 hb
  have e : meas b = b.length := by unfold meas; rw [hz]; rfl
  rw [e]
  rcases h with h | h
  · rw [zeroB_prim h]; simp [meas, zeroB]; omega
  · have h2 := prim_length hr
    have h4 : meas (primZ r) ≤ (primZ r).length := by unfold meas; split <;> omega
    omega

/-- The greatest common one of primitive wholes, by rests, at most n of them; none if a number becomes too great. -/
def gwZ : Nat → List Int → List Int → Option (List Int)
  | 0, a, _ => some a
  | n + 1, a, b => if zeroB b then some a else match restZ a b with
    | none => none
    | some r => gwZ n b (primZ r)
theorem gwZ_stop {n : Nat} {a b : List Int} (h : zeroB b = true) : gwZ n a b = some a := by
  cases n with
  | zero => rfl
  | succ n => rw [gwZ, if_pos h]
theorem gwZ_none {n : Nat} {a b : List Int} (h : zeroB b = false) (hr : restZ a b = none) : gwZ (n + 1) a b = none := by
  rw [gwZ, if_neg (by rw [h]; simp), hr]
theorem gwZ_go {n : Nat} {a b r : List Int} (h : zeroB b = false) (hr : restZ a b = some r) : gwZ (n + 1) a b = gwZ n b (primZ r) := by
  rw [gwZ, if_neg (by rw [h]; simp), hr]
/-- Once the rounds are enough, more make no odds. -/
theorem gwZ_more : ∀ (n k : Nat) (a b : List Int), meas b ≤ n → Vld a → Vld b → gwZ (n + k) a b = gwZ n a b
  | 0, k, a, b, h, ha, hb => by
    have hz : zeroB b = true := by
      cases hz : zeroB b
      · have := List.length_pos_iff.2 hb.ne
        unfold meas at h
        rw [hz] at h
        simp at h
        exact absurd h hb.ne
      · rfl
    rw [gwZ_stop hz, gwZ_stop hz]
  | n + 1, k, a, b, h, ha, hb => by
    cases hz : zeroB b
    · rw [show n + 1 + k = (n + k) + 1 by omega]
      cases hr : restZ a b with
      | none => rw [gwZ_none hz hr, gwZ_none hz hr]
      | some r =>
        rw [gwZ_go hz hr, gwZ_go hz hr]
        have h1 := restZ_vld hb.ne (Nat.lt_succ_self _) ha hr
        have h2 := (prim_meas hz h1.1.trd h1.2).resolve_right hb.ne
        exact gwZ_more n k _ _ (by omega) hb (prim_vld h1.1)
    · rw [gwZ_stop hz, gwZ_stop hz]
def gcdW (a b : List Int) : Option (List Int) := gwZ 17 a b
theorem meas17 {b : List Int} (h : Vld b) : meas b ≤ 17 := by
  have := h.len
  unfold meas; split <;> omega
theorem gcdW_stop {a b : List Int} (h : zeroB b = true) : gcdW a b = some a := gwZ_stop h
theorem gcdW_none {a b : List Int} (h : zeroB b = false) (hr : restZ a b = none) : gcdW a b = none := gwZ_none h hr
theorem gcdW_go {a b r : List Int} (ha : Vld a) (hb : Vld b) (h : zeroB b = false) (hr : restZ a b = some r) : gcdW a b = gcdW b (primZ r) := by
  have h1 := restZ_vld hb.ne (Nat.lt_succ_self _) ha hr
  have h2 := (prim_meas h h1.1.trd h1.2).resolve_right hb.ne
  have h3 := meas17 hb
  unfold gcdW
  rw [gwZ_go h hr]
  exact (gwZ_more 16 1 b (primZ r) (by omega) hb (prim_vld h1.1)).symm
theorem gwZ_vld : ∀ {n : Nat} {a b g : List Int}, Vld a → Vld b → gwZ n a b = some g → Vld g
  | 0, _, _, _, ha, _, h => by cases h; exact ha
  | n + 1, a, b, g, ha, hb, h => by
    cases hz : zeroB b
    · cases hr : restZ a b with
      | none => rw [gwZ_none hz hr] at h; cases h
      | some r =>
        rw [gwZ_go hz hr] at h
        exact gwZ_vld hb (prim_vld (restZ_vld hb.ne (Nat.lt_succ_self _) ha hr).1) h
    · rw [gwZ_stop hz] at h; cases h; exact ha
/-- Times a number. -/
def timesZ (c : Int) (zs : List Int) : List Int := zs.map fun z => c * z
/-- The pair in the order in which it is divided. -/
def pairZ (a b : List Int) : List Int × List Int := if a.length < b.length ∨ zeroB a = true then (b, a) else (a, b)
def commonW (a b : List Int) : List Int × Bool :=
  if validB a && validB b then
    match gcdW (pairZ (primZ a) (primZ b)).1 (pairZ (primZ a) (primZ b)).2 with
    | none => ([], false)
    | some g => giveF (trimZ (timesZ (gcZ (contZ a) (contZ b)) g))
  else ([], false)
theorem giveF_len (zs : List Int) : (giveF zs).1.length ≤ 17 := by
  unfold giveF
  split
  · rename_i h; exact (validB_ne h).2
  · simp
theorem commonW_len (a b : List Int) : (commonW a b).1.length ≤ 1048576 := by
  unfold commonW
  split
  · split
    · simp
    · have := giveF_len (trimZ (timesZ (gcZ (contZ a) (contZ b)) ‹List Int›)); omega
  · simp

end Go.Proofs.Ytlnjkjogedbhfaa
