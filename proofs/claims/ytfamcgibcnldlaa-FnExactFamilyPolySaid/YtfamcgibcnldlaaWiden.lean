/- Every float32 fits float64. Conditions: none. -/
import Derived.Test.YtfamcgibcnldlaaSame
namespace Go.Proofs.Ytfamcgibcnldlaa
open Go Go.RowKit
set_option linter.unusedSimpArgs false
set_option linter.unusedVariables false

theorem cut_zero (n : Nat) (s : Bool) : Ieee.Toward.even.cut s n 0 = n := by
  unfold Ieee.Toward.cut
  have : min 0 (n.log2 + 2) = 0 := by omega
  simp [this, Nat.mod_one]

theorem read_word_small {f : Ieee.Format} {s : Bool} {r : Nat} (h : r < f.infRung) : (f.read (f.word s r)).isInfinity = false := by
  have hsw := f.infRung_lt
  have hr : f.word s r % f.signWeight = r := by
    unfold Ieee.Format.word
    split
    · rw [Nat.add_mod_left, Nat.mod_eq_of_lt (by omega)]
    · rw [Nat.mod_eq_of_lt (by omega)]
  unfold Ieee.Format.read
  simp only [hr]
  split
  · rfl
  · first | rfl | (rw [if_pos h]; rfl)

theorem nearest_double_small {s : Bool} {m : Nat} {e : Int} (hm : m < 16777216) (h0 : -149 ≤ e) (h1 : e ≤ 104) : (Ieee.double.read (Ieee.double.nearest s m e)).isInfinity = false := by
  obtain ⟨e1, e2, e3, e4, e5⟩ := double_facts
  unfold Ieee.Format.nearest
  split
  · exact read_word_small (by rw [e3]; omega)
  · rename_i hne
    dsimp only
    have hl : m.log2 < 24 := (Nat.log2_lt hne).2 (by omega)
    rw [e4, e5]
    have hlast : max (e + (m.log2 : Int) - (52 : Nat)) (-1074) = e + (m.log2 : Int) - 52 := by omega
    rw [hlast]
    have hd : ((e + (m.log2 : Int) - 52) - e).toNat = 0 := by omega
    have hs : (e - (e + (m.log2 : Int) - 52)).toNat = 52 - m.log2 := by omega
    rw [hd, hs, cut_zero, Nat.shiftLeft_eq]
    have hp : m * 2 ^ (52 - m.log2) < 2 ^ 53 := by
      have h2 : m < 2 ^ (m.log2 + 1) := Nat.lt_log2_self
      calc m * 2 ^ (52 - m.log2) < 2 ^ (m.log2 + 1) * 2 ^ (52 - m.log2) := Nat.mul_lt_mul_of_pos_right h2 (Nat.two_pow_pos _)
        _ = 2 ^ 53 := by rw [← Nat.pow_add]; congr 1; omega
    generalize m * 2 ^ (52 - m.log2) = q at hp
    refine read_word_small (Nat.lt_of_le_of_lt (Nat.min_le_left ..) ?_)
    rw [e2, e3]
    have : ((e + (m.log2 : Int) - 52) - -1074).toNat ≤ 1149 := by omega
    generalize ((e + (m.log2 : Int) - 52) - -1074).toNat = z at this
    have h53 : (2 : Nat) ^ 53 = 9007199254740992 := by decide
    omega

theorem fits_widen (x : Nat) : fits .f32 .f64 x = true := by
  obtain ⟨e1, e2, e3, e4⟩ := single_facts
  unfold fits
  by_cases hn : isN .f32 x = true
  · simp [hn]
  · have hn : isN .f32 x = false := by simpa using hn
    rw [hn, Bool.false_or]
    unfold floatToFloatBits
    rw [if_neg (by decide)]
    have hsp : FloatKind.f32.decode x = Ieee.single.read x := rfl
    rw [hsp]
    cases hd : Ieee.single.read x with
    | nan s f => exfalso; unfold isN at hn; rw [hsp, hd] at hn; simp [Ieee.Datum.isNaN] at hn
    | infinity s => rfl
    | number s m e =>
      have hb : m < 16777216 ∧ -149 ≤ e ∧ e ≤ 104 := by
        unfold Ieee.Format.read at hd
        simp only [e1, e2, e3, e4] at hd
        split at hd
        · cases hd; exact ⟨by omega, by omega, by omega⟩
        · split at hd
          · cases hd; exact ⟨by omega, by omega, by omega⟩
          · split at hd <;> cases hd
      have := nearest_double_small (s := s) hb.1 hb.2.1 hb.2.2
      show (if (Ieee.double.read (Ieee.double.nearest s m e)).isInfinity = true then none else some _).isSome = true
      rw [this]; rfl

end Go.Proofs.Ytfamcgibcnldlaa
