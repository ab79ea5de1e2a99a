/- The terms of a family's polynomials, of the program and of the reference: the same numbers, up to the bits of a NaN. Conditions: the degree from 0 to 16. -/
import Derived.Test.YtfamcgibcnldlaaPF
namespace Go.Proofs.Ytfamcgibcnldlaa
open Go Go.RowKit
set_option linter.unusedSimpArgs false
set_option linter.unusedVariables false

theorem infoS : (Try.prog.info? 28).map (fun i => (i.zero, i.size, i.bytes)) = some (some (.slice none 0 0), 1, 24) := by kernel_rfl

/-- A list of floats that lies apart of a slice's own block. -/
def RdA (w : World) (ov v : Value) (rs : List Nat) : Prop := RdV w v (fl rs) ∧ (rs = [] ∨ v.ownBlock ≠ ov.ownBlock)
theorem RdA.below {w w' : World} {ov v : Value} {rs : List Nat} (h : RdA w ov v rs) (hb : Below w.heap.size w w') : RdA w' ov v rs := ⟨h.1.below hb, h.2⟩
theorem RdA.push {w w' : World} {ov ov' v : Value} {rs : List Nat} (h : RdA w ov v rs) (hg : w.grownBy w' ov.ownBlock) (ho : ov'.ownBlock = ov.ownBlock ∨ ∃ g, ov'.ownBlock = some g ∧ w.heap.size ≤ g) : RdA w' ov' v rs := by
  refine ⟨h.1.kept hg ?_, ?_⟩
  · rcases h.2 with h | h
    · left; simp [h, fl]
    · exact .inr h
  · rcases ho with ho | ⟨g, ho, hg'⟩
    · rw [ho]; exact h.2
    · by_cases hn : rs = []
      · exact .inl hn
      · right
        obtain ⟨b, off, cap, rfl, hb, _, _⟩ := h.1.open (by simpa [fl] using hn)
        rw [ho]
        simp [Value.ownBlock]; omega
theorem RdA.new {w : World} {B : Nat} {ov v : Value} {rs : List Nat} (h : RowV 22 w B v (fl rs)) (ho : ∀ g, ov.ownBlock = some g → g < B) : RdA w ov v rs := by
  refine ⟨h.rd, ?_⟩
  by_cases hn : rs = []
  · exact .inl hn
  · right
    obtain ⟨g, cap, rfl, hb, _⟩ := h.own.open (by simpa [fl] using hn)
    intro e
    have := ho g e.symm
    omega

theorem rd_nil (w : World) (ao : Option Addr) : RdV w (.slice ao 0 0) (fl []) := ⟨ao, 0, rfl, ⟨Nat.le_refl _, by decide⟩, .inl rfl⟩
theorem rd_one {w : World} {s : Nat} (hs : s = w.heap.size) : RdV (w.alloc (.cells #[.float .f32 1065353216] 22)) (.slice (some ⟨s, 0, none⟩) 1 1) (fl [one32]) := by
  subst hs
  refine ⟨_, 1, rfl, ⟨Nat.le_refl _, by decide⟩, .inr ⟨w.heap.size, 0, rfl, fun i hi => ?_⟩⟩
  obtain rfl : i = 0 := by simp at hi; omega
  exact (World.cell?_alloc_new w #[.float .f32 1065353216] 22 0 : _)
theorem row_one {w : World} {B s : Nat} (hs : s = w.heap.size) (h : B ≤ w.heap.size) (v : Value) (e : TypeId) : RowV e (w.alloc (.cells #[v] e)) B (.slice (some ⟨s, 0, none⟩) 1 1) [v] := hs ▸ World.ownsRow_lit w #[v] 1 h (by decide) rfl
theorem row_nil {w : World} {B : Nat} (h : B ≤ w.heap.size) (e : TypeId) : RowV e (w.alloc (.cells #[] e)) B (.slice (some ⟨w.heap.size, 0, none⟩) 0 0) [] := World.ownsRow_lit w #[] 0 h (by decide) rfl
theorem termsS_next (kind : Int) (m : Nat) : (termsS kind (m + 1)).1 = buildN (termV (ruleF kind m) (termsS kind m).1 (termsS kind m).2) ((termsS kind m).1.length + 1) := rfl
theorem terms_step {kind : Int} {m : Nat} {rs bs ts : List Nat} (hrs : rs.map (nrm .f32) = (termsS kind m).1) (hbs : bs.map (nrm .f32) = (termsS kind m).2)
    (hts : ts.map (nrm .f32) = buildN (termV (ruleF kind m) (rs.map (nrm .f32)) (bs.map (nrm .f32))) (rs.length + 1)) : ts.map (nrm .f32) = (termsS kind (m + 1)).1 := by
  rw [hts, termsS_next, ← hrs, ← hbs, List.length_map]

end Go.Proofs.Ytfamcgibcnldlaa
