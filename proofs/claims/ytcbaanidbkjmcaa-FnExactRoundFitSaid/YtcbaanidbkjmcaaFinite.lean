/- A float32 is finite just where its word stands for a number; what is not finite does not become finite by a product or a difference. Conditions: none. -/
import Derived.Test.YtcbaanidbkjmcaaFamRow
namespace Go.Proofs.Ytcbaanidbkjmcaa
open Go Go.RowKit

def isNumD : Ieee.Datum → Bool
  | .number .. => true
  | _ => false
def isNum (x : Nat) : Bool := isNumD (Ieee.single.read x)

theorem binade_le (f : Ieee.Format) : f.binade ≤ f.infRung ∨ f.infRung < f.binade := by omega

theorem read_inf {f : Ieee.Format} (hf : f.binade ≤ f.infRung) (s : Bool) : isNumD (f.read (f.write (.infinity s))) = false := by
  have hsw := f.infRung_lt
  have hr : f.word s f.infRung % f.signWeight = f.infRung := by
    unfold Ieee.Format.word
    split
    · rw [Nat.add_mod_left, Nat.mod_eq_of_lt (by omega)]
    · rw [Nat.mod_eq_of_lt (by omega)]
  show isNumD (f.read (f.word s f.infRung)) = false
  unfold Ieee.Format.read
  simp only [hr]
  rw [if_neg (by omega), if_neg (by omega)]
  simp [isNumD]

theorem isNum_qnan : isNum (qnan .f32) = false := by decide +kernel
theorem isNum_nrm (x : Nat) : isNum (nrm .f32 x) = isNum x := by
  unfold nrm
  split
  · rename_i h
    obtain ⟨s, f, e⟩ := isNaN_cases _ h
    have e' : Ieee.single.read x = .nan s f := e
    rw [isNum_qnan]
    simp [isNum, e', isNumD]
  · rfl

theorem fop_none {op : BinOp} {k : FloatKind} {x y : Nat} (h : floatBits op k x y = none) : fop op k x y = qnan k := by simp [fop, h, nrm_qnan]
theorem fop_some {op : BinOp} {k : FloatKind} {x y r : Nat} (h : floatBits op k x y = some r) : fop op k x y = nrm k r := by simp [fop, h]

theorem single_le : Ieee.single.binade ≤ Ieee.single.infRung := by decide +kernel

theorem isNum_mul {a y : Nat} (h : isNum (fop .mul .f32 a y) = true) : isNum y = true := by
  cases hy : isNum y with
  | true => rfl
  | false =>
    exfalso
    have hb : floatBits .mul .f32 a y = ((Ieee.single.read a).product (Ieee.single.read y)).map Ieee.single.write := rfl
    cases hr : Ieee.single.read y with
    | number s m e => simp [isNum, hr, isNumD] at hy
    | nan s f =>
      rw [hr, product_nan_right] at hb
      rw [fop_none hb, isNum_qnan] at h
      cases h
    | infinity s =>
      rw [hr] at hb
      cases ha : Ieee.single.read a with
      | nan t f =>
        rw [ha, product_nan_left] at hb
        rw [fop_none hb, isNum_qnan] at h
        cases h
      | infinity t =>
        rw [ha] at hb
        have hb' : floatBits .mul .f32 a y = some (Ieee.single.write (.infinity (t ^^ s))) := hb
        rw [fop_some hb', isNum_nrm] at h
        unfold isNum at h
        rw [read_inf single_le] at h
        cases h
      | number t m e =>
        rw [ha] at hb
        by_cases hm : m = 0
        · have hb' : floatBits .mul .f32 a y = none := by rw [hb, hm]; rfl
          rw [fop_none hb', isNum_qnan] at h
          cases h
        · have hb' : floatBits .mul .f32 a y = some (Ieee.single.write (.infinity (s ^^ t))) := by rw [hb]; simp [Ieee.Datum.product, hm]
          rw [fop_some hb', isNum_nrm] at h
          unfold isNum at h
          rw [read_inf single_le] at h
          cases h

theorem isNum_sub {a y : Nat} (h : isNum (fop .sub .f32 a y) = true) : isNum a = true := by
  cases ha : isNum a with
  | true => rfl
  | false =>
    exfalso
    have hb : floatBits .sub .f32 a y = ((Ieee.single.read a).sum (Ieee.single.read y).opposite).map Ieee.single.write := rfl
    cases hr : Ieee.single.read a with
    | number s m e => simp [isNum, hr, isNumD] at ha
    | nan s f =>
      rw [hr, sum_nan_left] at hb
      rw [fop_none hb, isNum_qnan] at h
      cases h
    | infinity s =>
      rw [hr] at hb
      cases hy : (Ieee.single.read y).opposite with
      | nan t f =>
        rw [hy, sum_nan_right] at hb
        rw [fop_none hb, isNum_qnan] at h
        cases h
      | infinity t =>
        rw [hy] at hb
        by_cases hst : s = t
        · have hb' : floatBits .sub .f32 a y = some (Ieee.single.write (.infinity s)) := by rw [hb]; simp [Ieee.Datum.sum, hst]
          rw [fop_some hb', isNum_nrm] at h
          unfold isNum at h
          rw [read_inf single_le] at h
          cases h
        · have hb' : floatBits .sub .f32 a y = none := by rw [hb]; simp [Ieee.Datum.sum, hst]
          rw [fop_none hb', isNum_qnan] at h
          cases h
      | number t m e =>
        rw [hy] at hb
        have hb' : floatBits .sub .f32 a y = some (Ieee.single.write (.infinity s)) := by rw [hb]; rfl
        rw [fop_some hb', isNum_nrm] at h
        unfold isNum at h
        rw [read_inf single_le] at h
        cases h

theorem finF_isNum (x : Nat) : finF x = isNum x := by
  have hb : floatBits .sub .f32 x x = ((Ieee.single.read x).sum (Ieee.single.read x).opposite).map Ieee.single.write := rfl
  have hq : fcmp .eql .f32 (qnan .f32) (nrm .f32 0) = false := by decide +kernel
  unfold finF isNum
  cases hr : Ieee.single.read x with
  | nan s f =>
    rw [hr, sum_nan_left] at hb
    rw [fop_none hb, hq]; rfl
  | infinity s =>
    have hb' : floatBits .sub .f32 x x = none := by rw [hb, hr]; cases s <;> simp [Ieee.Datum.sum, Ieee.Datum.opposite]
    rw [fop_none hb', hq]; rfl
  | number s m e =>
    have hz : Ieee.signed s m (e - min e e).toNat + Ieee.signed (!s) m (e - min e e).toNat = 0 := by
      have : (e - min e e).toNat = 0 := by omega
      rw [this]
      cases s <;> simp [Ieee.signed, Nat.shiftLeft_zero] <;> omega
    have hb' : floatBits .sub .f32 x x = some 0 := by
      rw [hb, hr]
      simp only [Ieee.Datum.opposite, Ieee.Datum.sum, hz, if_true, Int.natAbs_zero, Option.map_some]
      congr 1
      cases s <;> simp [Ieee.Format.write, Ieee.Format.nearest, Ieee.Format.word]
    rw [fop_some hb']
    show fcmp .eql .f32 (nrm .f32 0) (nrm .f32 0) = true
    decide +kernel

theorem row_fin (kind : Int) (x n : Nat) : finF ((rowS kind x n).1.getD n 0) = (rowS kind x n).1.all finF := by
  induction n with
  | zero => simp [rowS]
  | succ n ih =>
    have hl := rowS_length kind x n
    have hx : ∃ z u, (rowS kind x (n + 1)).1 = (rowS kind x n).1 ++ [fop .sub .f32 (fop .mul .f32 z ((rowS kind x n).1.getD n 0)) u] := ⟨_, _, rfl⟩
    obtain ⟨z, u, e⟩ := hx
    rw [e, List.all_append, ← ih]
    have hg : ((rowS kind x n).1 ++ [fop .sub .f32 (fop .mul .f32 z ((rowS kind x n).1.getD n 0)) u]).getD (n + 1) 0 = fop .sub .f32 (fop .mul .f32 z ((rowS kind x n).1.getD n 0)) u := by
      simp [List.getD, hl]
    rw [hg]
    generalize (rowS kind x n).1.getD n 0 = y
    simp only [List.all_cons, List.all_nil, Bool.and_true]
    rw [finF_isNum, finF_isNum]
    cases h : isNum (fop .sub .f32 (fop .mul .f32 z y) u) with
    | false => simp
    | true => simp [isNum_mul (isNum_sub h)]

end Go.Proofs.Ytcbaanidbkjmcaa
