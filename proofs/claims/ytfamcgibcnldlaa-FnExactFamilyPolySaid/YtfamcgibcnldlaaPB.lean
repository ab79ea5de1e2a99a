/- The terms of a family's polynomial, trimmed, in plain words; what reads as floats and as complex numbers without an imaginary part. Conditions: none. -/
import Derived.Test.YtfamcgibcnldlaaPA
namespace Go.Proofs.Ytfamcgibcnldlaa
open Go Go.RowKit
set_option linter.unusedSimpArgs false
set_option linter.unusedVariables false

def fl (rs : List Nat) : List Value := rs.map (Value.float .f32)
def cx (rs : List Nat) : List Value := rs.map (fun r => Value.complex .f32 r 0)
@[simp] theorem fl_length (rs : List Nat) : (fl rs).length = rs.length := by simp [fl]
@[simp] theorem cx_length (rs : List Nat) : (cx rs).length = rs.length := by simp [cx]
theorem fl_get {rs : List Nat} {i : Nat} (h : i < rs.length) : (fl rs)[i]? = some (.float .f32 (rs.getD i 0)) := by simp [fl, List.getD, h]
theorem cx_get {rs : List Nat} {i : Nat} (h : i < rs.length) : (cx rs)[i]? = some (.complex .f32 (rs.getD i 0) 0) := by simp [cx, List.getD, h]
theorem cx_one (rs : List Nat) : ∀ u ∈ cx rs, u.oneCell' = true := by
  intro u hu
  simp only [cx, List.mem_map] at hu
  obtain ⟨r, _, rfl⟩ := hu
  rfl

theorem nrm0 : nrm .f32 0 = 0 := by decide +kernel

/-- A number of a list, 0 for one that is missing. -/
def rat (l : List Nat) (k : Int) : Nat := if 0 ≤ k then l.getD k.toNat 0 else 0
theorem rat_neg {l : List Nat} {k : Int} (h : k < 0) : rat l k = 0 := by rw [rat, if_neg (by omega)]
theorem rat_over {l : List Nat} {k : Int} (h : (l.length : Int) ≤ k) : rat l k = 0 := by
  unfold rat
  split
  · rw [List.getD, List.getElem?_eq_none (by omega)]; rfl
  · rfl
theorem rat_in {l : List Nat} {k : Nat} : rat l k = l.getD k 0 := by rw [rat, if_pos (by omega)]; simp
theorem rat_map (l : List Nat) (k : Int) : rat (l.map (nrm .f32)) k = nrm .f32 (rat l k) := by
  unfold rat
  split
  · simp only [List.getD, List.getElem?_map]
    cases l[k.toNat]? with
    | none => exact nrm0.symm
    | some x => rfl
  · exact nrm0.symm

/-- One term of the next polynomial. -/
def termV (A : Nat × Nat × Nat) (now before : List Nat) (k : Nat) : Nat :=
  fop .sub .f32 (fop .add .f32 (fop .mul .f32 A.1 (rat now ((k : Int) - 1))) (fop .mul .f32 A.2.1 (rat now k))) (fop .mul .f32 A.2.2 (rat before k))

def buildN (E : Nat → Nat) (k : Nat) : List Nat := (List.range k).map E
@[simp] theorem buildN_length (E : Nat → Nat) (k : Nat) : (buildN E k).length = k := by simp [buildN]
theorem buildN_succ (E : Nat → Nat) (k : Nat) : buildN E (k + 1) = buildN E k ++ [E k] := by simp [buildN, List.range_succ]

/-- The terms after m steps, and those before them; with the bits of a NaN forgotten. -/
def termsS (kind : Int) : Nat → List Nat × List Nat
  | 0 => ([nrm .f32 one32], [])
  | m + 1 => (buildN (termV (ruleF kind m) (termsS kind m).1 (termsS kind m).2) ((termsS kind m).1.length + 1), (termsS kind m).1)
theorem termsS_length (kind : Int) (m : Nat) : (termsS kind m).1.length = m + 1 := by
  induction m with
  | zero => rfl
  | succ m ih => simp [termsS, ih]
theorem termsS_length2 (kind : Int) (m : Nat) : (termsS kind m).2.length = m := by
  cases m with
  | zero => rfl
  | succ m => simp [termsS, termsS_length]

def zeroF (x : Nat) : Bool := fcmp .eql .f32 x (nrm .f32 0)
/-- The length that is left when the last zeros are gone. -/
def trimN (F : List Nat) : Nat → Nat
  | 0 => 0
  | 1 => 1
  | n + 2 => if zeroF (F.getD (n + 1) 0) = true then trimN F (n + 1) else n + 2
theorem trimN_le (F : List Nat) (n : Nat) : trimN F n ≤ n := by
  induction n with
  | zero => exact Nat.le_refl _
  | succ n ih =>
    cases n with
    | zero => exact Nat.le_refl _
    | succ n =>
      unfold trimN
      split
      · omega
      · omega
theorem trimN_pos (F : List Nat) {n : Nat} (h : 0 < n) : 0 < trimN F n := by
  induction n with
  | zero => omega
  | succ n ih =>
    cases n with
    | zero => exact Nat.one_pos
    | succ n =>
      unfold trimN
      split
      · exact ih (by omega)
      · omega
theorem trimN_last (F : List Nat) (n : Nat) : trimN F n ≤ 1 ∨ zeroF (F.getD (trimN F n - 1) 0) = false := by
  induction n with
  | zero => left; exact Nat.zero_le _
  | succ n ih =>
    cases n with
    | zero => left; exact Nat.le_refl _
    | succ n =>
      unfold trimN
      split
      · exact ih
      · right; rename_i h; simpa using h
theorem trimN_step {F : List Nat} {n : Nat} (h1 : 1 < n) (h : zeroF (F.getD (n - 1) 0) = true) : trimN F n = trimN F (n - 1) := by
  obtain ⟨m, rfl⟩ : ∃ m, n = m + 2 := ⟨n - 2, by omega⟩
  have h' : zeroF (F.getD (m + 1) 0) = true := by simpa using h
  rw [trimN, if_pos h']
  rfl
theorem trimN_stop {F : List Nat} {n : Nat} (h1 : 1 < n) (h : zeroF (F.getD (n - 1) 0) = false) : trimN F n = n := by
  obtain ⟨m, rfl⟩ : ∃ m, n = m + 2 := ⟨n - 2, by omega⟩
  have h' : zeroF (F.getD (m + 1) 0) = false := by simpa using h
  rw [trimN, if_neg (by rw [h']; simp)]
theorem trimN_small {F : List Nat} {n : Nat} (h1 : n ≤ 1) : trimN F n = n := by
  have : n = 0 ∨ n = 1 := by omega
  rcases this with rfl | rfl <;> rfl

/-- A trimmed list is a polynomial's, if its numbers are finite. -/
def validF (F : List Nat) : Bool := F.all finF && (decide (F.length = 1) || !zeroF (F.getD (F.length - 1) 0))
def trimF (F : List Nat) : List Nat := F.take (trimN F F.length)
def polyF (F : List Nat) : List Nat × Bool := if validF (trimF F) = true then (trimF F, true) else ([], false)
def familyPolyF (kind n : Int) : List Nat × Bool := if kindB kind n = true then polyF (termsS kind n.toNat).1 else ([], false)

theorem trimF_length (F : List Nat) : (trimF F).length = trimN F F.length := by
  have := trimN_le F F.length
  simp [trimF]; omega

theorem getD_nrm (rs : List Nat) (k : Nat) : (rs.map (nrm .f32)).getD k 0 = nrm .f32 (rs.getD k 0) := by
  have := rat_map rs k
  rwa [rat_in, rat_in] at this

theorem polyF_le {F : List Nat} : (polyF F).1.length ≤ F.length := by
  unfold polyF
  split
  · have := trimN_le F F.length; simp [trimF_length]; exact this
  · simp
theorem kindB_bound {kind n : Int} (h : kindB kind n = true) : 0 ≤ n ∧ n ≤ 16 := by
  simp only [kindB, Bool.and_eq_true, inB_true] at h; omega
theorem familyPolyF_le (kind n : Int) : (familyPolyF kind n).1.length ≤ 17 := by
  unfold familyPolyF
  split
  · rename_i h
    have h1 := polyF_le (F := (termsS kind n.toNat).1)
    have h2 := kindB_bound h
    rw [termsS_length] at h1
    omega
  · simp

/-- The comparison of a complex number that has no imaginary part with 0. -/
@[go_sem high] theorem complex_eql0 (t : TypeId) (a : Nat) : binOp .eql t (.complex .f32 a 0) (.complex .f32 0 0) = pure (.bool (zeroF (nrm .f32 a))) := by
  have h0 : fcmp .eql .f32 (nrm .f32 0) (nrm .f32 0) = true := by decide +kernel
  rw [fcmp_nrm] at h0
  unfold zeroF
  rw [fcmp_nrm]
  simp only [fcmp] at h0 ⊢
  simp [binOp, Op.complexOp, Op.Complex.cmp, Op.floatCmp, asBool, h0]
@[go_sem high] theorem complex_neq0 (t : TypeId) (a : Nat) : binOp .neq t (.complex .f32 a 0) (.complex .f32 0 0) = pure (.bool (!zeroF (nrm .f32 a))) := by
  have h0 : fcmp .eql .f32 (nrm .f32 0) (nrm .f32 0) = true := by decide +kernel
  rw [fcmp_nrm] at h0
  unfold zeroF
  rw [fcmp_nrm]
  simp only [fcmp] at h0 ⊢
  simp [binOp, Op.complexOp, Op.Complex.cmp, Op.floatCmp, asBool, h0]
end Go.Proofs.Ytfamcgibcnldlaa
