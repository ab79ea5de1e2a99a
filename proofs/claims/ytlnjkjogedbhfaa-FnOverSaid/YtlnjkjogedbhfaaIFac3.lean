/- Factors over a prime, plain: the program's run step by step, and the list that both return. Conditions: none (plain). -/
import Derived.Test.YtlnjkjogedbhfaaIFac2
import Derived.Test.YtlnjkjogedbhfaaIFx
namespace Go.Proofs.Ytlnjkjogedbhfaa
open Go Go.RowKit
set_option linter.unusedSimpArgs false
set_option linter.unusedVariables false

theorem fi_hit {M d n : Nat} {p : List Int} {L : List (List Int)} (h : Fi M d n p L) (h1 : n < M ^ d) (h2 : d ≤ p.length - 1) (h3 : Dv M p (cand M d n)) : ∃ L', L = cand M d n :: L' ∧ Fi M d n (quo M p (cand M d n)) L' := by
  cases h with
  | stop h _ => omega
  | up h _ _ => omega
  | hit _ _ _ h4 => exact ⟨_, rfl, h4⟩
  | miss _ h4 _ =>
    rcases h4 with h4 | h4
    · omega
    · exact absurd h3 h4
theorem fi_miss {M d n : Nat} {p : List Int} {L : List (List Int)} (h : Fi M d n p L) (h1 : n < M ^ d) (h2 : p.length - 1 < d ∨ ¬ Dv M p (cand M d n)) : Fi M d (n + 1) p L := by
  cases h with
  | stop h _ => omega
  | up h _ _ => omega
  | hit _ h4 h5 _ =>
    rcases h2 with h2 | h2
    · omega
    · exact absurd h5 h2
  | miss _ _ h4 => exact h4
theorem fi_up {M d n : Nat} {p : List Int} {L : List (List Int)} (h : Fi M d n p L) (hn : n = M ^ d) (h2 : 2 * (d + 1) ≤ p.length - 1) : Fi M (d + 1) 0 p L := by
  cases h with
  | stop _ _ => omega
  | up _ _ h => exact h
  | hit _ _ _ _ => omega
  | miss _ _ _ => omega
theorem fi_stop {M d n : Nat} {p : List Int} {L : List (List Int)} (h : Fi M d n p L) (hn : n = M ^ d) (h2 : p.length - 1 < 2 * (d + 1)) : L = if 1 < p.length then [p] else [] := by
  cases h with
  | stop _ _ => rfl
  | up _ _ _ => omega
  | hit _ _ _ _ => omega
  | miss _ _ _ => omega
/-- The condition. -/
def facOk (m : Int) (a : List Int) : Bool := overB m a && decide (2 ≤ a.length) && decide (a.length ≤ 7)
/-- The list of both. -/
structure FacA (M : Nat) (a : List Int) (L : List (List Int)) : Prop where
  hm : primeB (M : Int) = true
  ov : Ovr M a
  nz : zeroB a = false
  l2 : 2 ≤ a.length
  l7 : a.length ≤ 7
  mon : Mon M (monicS M a)
  fs : Fs M 1 0 (monicS M a) L
  fi : 3 ≤ a.length → Fi M 1 0 (monicS M a) L
  fl : FacL M a.length L
  ne : L ≠ []
theorem fs_ne {M d n : Nat} {p : List Int} {L : List (List Int)} (h : Fs M d n p L) : 1 < p.length → L ≠ [] := by
  induction h with
  | stop _ => intro h; rw [if_pos h]; simp
  | up _ _ _ ih => exact ih
  | hit _ _ _ _ _ => intro _; simp
  | miss _ _ _ _ ih => exact ih
theorem fac_all {m : Int} {a : List Int} (h : facOk m a = true) : ∃ L, FacA m.toNat a L := by
  simp only [facOk, Bool.and_eq_true, decide_eq_true_eq] at h
  obtain ⟨⟨h1, h2⟩, h3⟩ := h
  obtain ⟨hm, ho, _⟩ := overB_ovr h1
  have hm2 := primeB_bd hm
  have e : ((m.toNat : Nat) : Int) = m := by omega
  have hz := long_zero h2
  have hmo : Mon m.toNat (monicS (m.toNat : Nat) a) := monic_mon (by rw [e]; exact hm) (by rw [e]; exact ho) hz
  obtain ⟨L, hf, hi, hl⟩ := fac_exists (M := m.toNat) (by rw [e]; exact hm) hmo (by rw [monicS_length]; omega)
  rw [monicS_length] at hl hi
  exact ⟨L, by rw [e]; exact hm, by rw [e]; exact ho, hz, h2, h3, hmo, hf, fun h => hi (by omega), hl, fs_ne hf (by rw [monicS_length]; omega)⟩
theorem FacA.l6 {M : Nat} {a : List Int} {L : List (List Int)} (h : FacA M a L) : L.length ≤ 6 := by have := h.fl.few; have := h.l7; omega
theorem FacA.srt {M : Nat} {a : List Int} {L : List (List Int)} (h : FacA M a L) : Srt L := by
  have hm := primeB_bd h.hm
  have h7 := h.l7
  refine ⟨by have := h.l6; omega, fun i hi => ?_, fun i hi => ?_⟩
  · have e : L.getD i [] = L[i] := by simp [List.getD, hi]
    have h1 := h.fl.mon L[i] (List.getElem_mem hi)
    rw [e]
    exact ⟨h1.1.ov.ne, by omega, h1.1.ov.ov.bd (by omega)⟩
  · have e1 : L.getD i [] = L[i]'(by omega) := by simp [List.getD, show i < L.length by omega]
    have e2 : L.getD (i + 1) [] = L[i + 1] := by simp [List.getD, hi]
    rw [e1, e2]
    exact List.pairwise_iff_getElem.1 h.fl.srt i (i + 1) (by omega) hi (by omega)
open Classical in
/-- What both return. -/
noncomputable def facL (m : Int) (a : List Int) : List (List Int) := if h : facOk m a = true then Classical.choose (fac_all h) else []
noncomputable def facR (m : Int) (a : List Int) : Option (List (List Int)) := if facOk m a then some (facL m a) else none
theorem facL_all {m : Int} {a : List Int} (h : facOk m a = true) : FacA m.toNat a (facL m a) := by
  unfold facL
  rw [dif_pos h]
  exact Classical.choose_spec (fac_all h)
theorem facR_len (m : Int) (a : List Int) : ((facR m a).getD []).length ≤ 40 ∧ ∀ i, (((facR m a).getD []).getD i []).length ≤ 17 := by
  unfold facR
  cases hk : facOk m a
  · rw [if_neg (by simp)]
    exact ⟨by simp, fun i => by simp⟩
  · rw [if_pos rfl]
    have h := facL_all hk
    simp only [Option.getD_some]
    refine ⟨by have := h.l6; omega, fun i => ?_⟩
    by_cases hi : i < (facL m a).length
    · have e : (facL m a).getD i [] = (facL m a)[i] := by simp [List.getD, hi]
      have h1 := h.fl.mon (facL m a)[i] (List.getElem_mem hi)
      have h7 := h.l7
      rw [e]; omega
    · rw [List.getD_eq_getElem?_getD, List.getElem?_eq_none (by omega)]; simp

end Go.Proofs.Ytlnjkjogedbhfaa
