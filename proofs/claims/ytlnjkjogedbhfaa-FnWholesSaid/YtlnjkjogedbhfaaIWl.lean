/- FnWholes: the plain laws of small wholes. Conditions: none (plain). -/
import Derived.Test.YtlnjkjogedbhfaaI38
namespace Go.Proofs.Ytlnjkjogedbhfaa
open Go Go.RowKit
set_option linter.unusedSimpArgs false
set_option linter.unusedVariables false

theorem Small.ne {a : List Int} (h : Small a) : a ≠ [] := by
  have := h.two
  intro e; rw [e] at this; simp at this
theorem Small.trd {a : List Int} (h : Small a) : Trd a := ⟨by have := h.two; omega, .inr h.last⟩
theorem Small.vld {a : List Int} (h : Small a) : Vld a := ⟨h.trd, h.bd.mono (by omega), by have := h.five; omega⟩
theorem zero_long {a : List Int} (h : 2 ≤ a.length) : zeroB a = false := long_zero h
theorem prod_bd {a b : List Int} (ha : Small a) (hb : Small b) : BdI 125 (mulZ a b) := by
  have hx : ∀ i k, -25 ≤ a.getD i 0 * b.getD k 0 ∧ a.getD i 0 * b.getD k 0 ≤ 25 := fun i k => by
    have := mul_bound (M := 5) (by omega) (ha.bd i) (hb.bd k)
    omega
  have h := mulRows_bound (a := a) (b := b) (o := List.replicate (a.length + b.length - 1) 0) (M := 25) (by omega) hx (bdI_zero _) (by simp) a.length (Nat.le_refl _)
  refine BdI.mono h ?_
  have := ha.five
  omega
theorem prod_last {a b : List Int} (ha : Small a) (hb : Small b) : lastZ (mulZ a b) = lastZ a * lastZ b := by
  have h1 := ha.two
  have h2 := hb.two
  have h := congrFun (mulZ_co a b) ((a.length - 1) + (b.length - 1))
  rw [cv_top (a.length - 1) (b.length - 1) (fun i hi => co_beyond a (by omega)) (fun i hi => co_beyond b (by omega))] at h
  unfold lastZ
  rw [mulZ_length, show a.length + b.length - 1 - 1 = (a.length - 1) + (b.length - 1) by omega]
  exact h
theorem prod_len {a b : List Int} (ha : Small a) (hb : Small b) : 3 ≤ (mulZ a b).length ∧ (mulZ a b).length ≤ 9 := by
  have := ha.two; have := hb.two; have := ha.five; have := hb.five
  rw [mulZ_length]; omega
theorem prod_last_ne {a b : List Int} (ha : Small a) (hb : Small b) : lastZ (mulZ a b) ≠ 0 := by
  rw [prod_last ha hb]
  exact Int.mul_ne_zero ha.last hb.last
theorem prod_vld {a b : List Int} (ha : Small a) (hb : Small b) : Vld (mulZ a b) := by
  have := prod_len ha hb
  exact ⟨⟨by omega, .inr (prod_last_ne ha hb)⟩, (prod_bd ha hb).mono (by omega), by omega⟩
theorem slope_small {zs : List Int} (h2 : 2 ≤ zs.length) (h9 : zs.length ≤ 9) (hb : BdI 125 zs) (hl : lastZ zs ≠ 0) : BdI 1000 (slopeZ zs) ∧ Vld (slopeZ zs) ∧ slopeR zs = (slopeZ zs, true) := by
  have hsl := slope_len zs
  have hbd : BdI 1000 (slopeZ zs) := fun i => by
    rw [slopeZ, buildZ_get]
    split
    · have hz := hb (i + 1)
      have h3 : ((i + 1 : Nat) : Int) * zs.getD (i + 1) 0 ≤ ((i + 1 : Nat) : Int) * 125 := Int.mul_le_mul_of_nonneg_left hz.2 (by omega)
      have h4 : ((i + 1 : Nat) : Int) * (-125) ≤ ((i + 1 : Nat) : Int) * zs.getD (i + 1) 0 := Int.mul_le_mul_of_nonneg_left hz.1 (by omega)
      unfold slopeE
      omega
    · constructor <;> omega
  have htr : Trd (slopeZ zs) := by
    refine ⟨by omega, .inr ?_⟩
    have h3 := congrFun (slope_co zs) (zs.length - 2)
    have e : (slopeZ zs).length - 1 = zs.length - 2 := by omega
    rw [e]
    show co (slopeZ zs) (zs.length - 2) ≠ 0
    rw [h3]
    show ((zs.length - 2 + 1 : Nat) : Int) * co zs (zs.length - 2 + 1) ≠ 0
    rw [show zs.length - 2 + 1 = zs.length - 1 by omega]
    exact Int.mul_ne_zero (by omega) hl
  have hv : Vld (slopeZ zs) := ⟨htr, hbd.mono (by omega), by omega⟩
  refine ⟨hbd, hv, ?_⟩
  have hvz : Vld zs := ⟨⟨by omega, .inr hl⟩, hb.mono (by omega), by omega⟩
  rw [slopeR, if_pos (validB_iff.2 hvz), htr.trimS, giveF_valid (validB_iff.2 hv)]
theorem sum_small {a b : List Int} (ha : Small a) (hb : Small b) : Vld (trimZ (addZ a b 2 (-3))) ∧ BdI 1000 (trimZ (addZ a b 2 (-3))) ∧ (trimZ (addZ a b 2 (-3))).length ≤ 9 ∧ ∀ x, ev (trimZ (addZ a b 2 (-3))) x = 2 * ev a x - 3 * ev b x := by
  have h1 := ha.two; have h2 := hb.two; have h3 := ha.five; have h4 := hb.five
  have hl : (addZ a b 2 (-3)).length = max a.length b.length := buildZ_length _ _
  have hne : addZ a b 2 (-3) ≠ [] := by intro e; rw [e] at hl; simp at hl; omega
  have hbd : BdI 1000 (addZ a b 2 (-3)) := fun i => by
    have e := congrFun (addZ_co a b 2 (-3)) i
    have h5 : -5 ≤ co a i ∧ co a i ≤ 5 := ha.bd i
    have h6 : -5 ≤ co b i ∧ co b i ≤ 5 := hb.bd i
    show -1000 ≤ co (addZ a b 2 (-3)) i ∧ co (addZ a b 2 (-3)) i ≤ 1000
    rw [e]
    omega
  have hco := trimZ_co (addZ a b 2 (-3))
  have hbd2 : BdI 1000 (trimZ (addZ a b 2 (-3))) := fun i => by
    have e := congrFun hco i
    show -1000 ≤ co (trimZ (addZ a b 2 (-3))) i ∧ co (trimZ (addZ a b 2 (-3))) i ≤ 1000
    rw [e]
    exact hbd i
  have hlt := trimZ_le (addZ a b 2 (-3))
  refine ⟨⟨trimZ_trd hne, hbd2.mono (by omega), by omega⟩, hbd2, by omega, fun x => ?_⟩
  rw [ev_co hco, ev_add]
  omega
theorem prim_sign {zs : List Int} (hl : lastZ zs ≠ 0) : 1 ≤ contZ zs ∧ ((∀ i, (primZ zs).getD i 0 * contZ zs = zs.getD i 0) ∨ (∀ i, (primZ zs).getD i 0 * contZ zs = - zs.getD i 0)) := by
  have hc : contZ zs ≠ 0 := fun h => hl (contZ_zero h _)
  have h0 : 0 ≤ contZ zs := by
    cases hz : zs.length with
    | zero => unfold contZ; rw [hz]; exact Int.le_refl _
    | succ n => unfold contZ; rw [hz]; exact gcZ_nonneg _ _
  refine ⟨by omega, ?_⟩
  have hk : ∀ i, (primZ zs).getD i 0 * primG zs = zs.getD i 0 := fun i => by
    rw [prim_get hc]
    obtain ⟨c, hc2⟩ := primG_dvd (zs := zs) i
    rw [hc2, Int.mul_tdiv_cancel_left _ (primG_ne hc), Int.mul_comm]
  by_cases hn : lastZ zs < 0
  · right
    intro i
    have h := hk i
    have e : primG zs = - contZ zs := if_pos hn
    rw [e] at h
    rw [← h, Int.mul_neg, Int.neg_neg]
  · left
    intro i
    have h := hk i
    have e : primG zs = contZ zs := if_neg hn
    rw [e] at h
    exact h
theorem pad_trim {a : List Int} (h : Trd a) : trimZ (a ++ [0, 0]) = a := by
  refine trd_ext (trimZ_trd (by simp)) h ?_
  rw [trimZ_co]
  funext i
  show (a ++ [0, 0]).getD i 0 = a.getD i 0
  simp only [List.getD]
  rcases Nat.lt_or_ge i a.length with h1 | h1
  · rw [List.getElem?_append_left h1]
  · rw [List.getElem?_append_right h1, List.getElem?_eq_none h1]
    match i - a.length with
    | 0 => rfl
    | 1 => rfl
    | n + 2 => rfl

end Go.Proofs.Ytlnjkjogedbhfaa
