/- Lists of floats among the arguments, opened. Conditions: none. -/
import Derived.Test.YtcbaanidbkjmcaaEq
import Derived.Test.YtcbaanidbkjmcaaRows
import Derived.ProofKit
import Derived.OpenShut
import Derived.Deep.Slices
namespace Go.Proofs.Ytcbaanidbkjmcaa
open Go Go.RowKit Go.WideShapes Go.Deep

section
variable {H : Type} {enc : TypeId × Value → H} {P : Program} {w : World} {base : Nat} {spare : Nat → Bool} {held : Bool}

theorem trod_float1 {e : TypeId} {k : FloatKind} {n : Nat} {v : Value} {x : DataW H × List MemPlace} (he : P.underlying e = some (.float k)) (h : DataW.trod enc P w base spare held n e [v] = some x) : ∃ b, v = .float k b := by
  cases n with
  | zero => simp [DataW.trod] at h
  | succ n =>
    simp only [DataW.trod, he] at h
    cases v <;> simp at h
    rename_i k' b
    exact ⟨b, by rw [h.1.1]⟩

theorem open_floats {t e : TypeId} {b0 : Nat} {v : Value} {d : DataW H} {ps : List MemPlace} (ht : P.underlying t = some (.slice e)) (he : P.underlying e = some (.float .f32)) (hc : P.cellsOf e = 1)
    (hval : Value.okWide P w .any b0 t v) (hd : DataW.Trod enc P w base spare held t v d ps) : ∃ rs : List Nat, RdF w v rs ∧ rs.length ≤ 9223372036854775807 := by
  obtain ⟨a0, len0, cap0, rfl⟩ := okWide_slice ht hval
  obtain ⟨fuel, hf⟩ := hd
  rcases open_slice1 ht hc hf with ⟨hcs, _⟩ | ⟨a, len, cap, m, n, V, D, Pl, hcs, _, hl, hm, hmm, _, hx⟩
  · simp [Value.cells] at hcs
    obtain ⟨rfl, rfl, rfl⟩ := hcs
    exact ⟨[], ⟨none, 0, rfl, .inl rfl⟩, by simp⟩
  · simp [Value.cells] at hcs
    obtain ⟨rfl, rfl, rfl⟩ := hcs
    have hlm : len0 ≤ m := by rw [hmm]; split <;> omega
    have hV : ∀ i, i < len0 → ∃ b, V i = .float .f32 b := fun i hi => trod_float1 he (hx i (by omega)).2
    refine ⟨(List.range len0).map fun i => match V i with | .float _ b => b | _ => 0, ⟨some a, cap0, by simp, ?_⟩, by simp; unfold maxLen at hm; omega⟩
    by_cases h0 : len0 = 0
    · left; simp [h0]
    · right
      have h1 := (hx 0 (by omega)).1
      obtain ⟨b, off, spot⟩ := a
      have hspot : spot = none := by simpa [Addr.add] using World.cell?_spot h1
      subst hspot
      refine ⟨b, off, rfl, fun i hi => ?_⟩
      simp only [List.length_map, List.length_range] at hi
      obtain ⟨z, hz⟩ := hV i hi
      have := (hx i (by omega)).1
      rw [hz] at this
      by_cases h0 : i = 0
      · subst h0; simpa [hz, Addr.add] using this
      · simpa [hz, Addr.add, h0] using this
end
end Go.Proofs.Ytcbaanidbkjmcaa
