/- The laws' 'same float': it answers true where both words are the same up to the bits of a NaN. Conditions: none. -/
import Derived.Test.YtfamcgibcnldlaaFloat
import Derived.Test.YtfamcgibcnldlaaChecked
namespace Go.Proofs.Ytfamcgibcnldlaa
open Go Go.RowKit
set_option linter.unusedSimpArgs false
set_option linter.unusedVariables false

theorem order_self {d : Ieee.Datum} (h : d.isNaN = false) : Ieee.Datum.order d d = some .eq := by
  cases d with
  | number s m i => simp [Ieee.Datum.order]
  | infinity s => simp [Ieee.Datum.order]
  | nan s f => simp [Ieee.Datum.isNaN] at h
theorem order_self_nan {d : Ieee.Datum} (h : d.isNaN = true) : Ieee.Datum.order d d = none := by
  obtain ⟨s, f, rfl⟩ := isNaN_cases d h; rfl
theorem fcmp_self_nan {k : FloatKind} {x : Nat} (h : isN k x = true) : fcmp .neq k x x = true ∧ fcmp .eql k x x = false := by
  have e : k.format.order x x = none := order_self_nan (d := k.format.read x) h
  simp [fcmp, e]
theorem fcmp_self {k : FloatKind} {x : Nat} (h : isN k x = false) : fcmp .neq k x x = false ∧ fcmp .eql k x x = true := by
  have e : k.format.order x x = some .eq := order_self (d := k.format.read x) h
  simp [fcmp, e]

@[go_sem high] theorem binOp_fcmp_eql (t : TypeId) (k : FloatKind) (a b : Nat) : binOp .eql t (.float k a) (.float k b) = pure (.bool (fcmp .eql k (nrm k a) (nrm k b))) := by rw [fcmp_nrm]; simp [binOp, Op.floatCmp, fcmp]
@[go_sem high] theorem binOp_fcmp_neq (t : TypeId) (k : FloatKind) (a b : Nat) : binOp .neq t (.float k a) (.float k b) = pure (.bool (fcmp .neq k (nrm k a) (nrm k b))) := by rw [fcmp_nrm]; simp [binOp, Op.floatCmp, fcmp]
@[go_sem high] theorem binOp_fcmp_lss (t : TypeId) (k : FloatKind) (a b : Nat) : binOp .lss t (.float k a) (.float k b) = pure (.bool (fcmp .lss k (nrm k a) (nrm k b))) := by rw [fcmp_nrm]; simp [binOp, Op.floatCmp, fcmp]
@[go_sem high] theorem binOp_fcmp_leq (t : TypeId) (k : FloatKind) (a b : Nat) : binOp .leq t (.float k a) (.float k b) = pure (.bool (fcmp .leq k (nrm k a) (nrm k b))) := by rw [fcmp_nrm]; simp [binOp, Op.floatCmp, fcmp]
@[go_sem high] theorem binOp_fcmp_gtr (t : TypeId) (k : FloatKind) (a b : Nat) : binOp .gtr t (.float k a) (.float k b) = pure (.bool (fcmp .gtr k (nrm k a) (nrm k b))) := by rw [fcmp_nrm]; simp [binOp, Op.floatCmp, fcmp]
@[go_sem high] theorem binOp_fcmp_geq (t : TypeId) (k : FloatKind) (a b : Nat) : binOp .geq t (.float k a) (.float k b) = pure (.bool (fcmp .geq k (nrm k a) (nrm k b))) := by rw [fcmp_nrm]; simp [binOp, Op.floatCmp, fcmp]

def RetB (b : Bool) (w : World) (e : Ending) (w' : World) : Prop := ∃ m, e = .returned (.bool b) ∧ w' = w.drewN m

set_option maxRecDepth 100000 in
theorem sameFloat_true (a b : Nat) (w : World) (h : nrm .f64 a = nrm .f64 b) :
    Calls Try.prog 8 #[.float .f64 a, .float .f64 b] w (RetB true w) := by
  by_cases hn : isN .f64 b = true
  · have h1 := (fcmp_self_nan (x := nrm .f64 b) (by rw [isN_nrm]; exact hn)).1
    clear hn
    go_enter Try.func8, Try.ntmps8
    go_wp2
    go_ret
    exact ⟨0, rfl, rfl⟩
  · obtain ⟨h1, h2⟩ := fcmp_self (x := nrm .f64 b) (by rw [isN_nrm]; simpa using hn)
    clear hn
    by_cases hz : fcmp .eql .f64 (nrm .f64 b) (nrm .f64 0) = true
    · by_cases hg : fcmp .gtr .f64 (fop .quo .f64 (nrm .f64 4607182418800017408) (nrm .f64 b)) (nrm .f64 0) = true
      · go_enter Try.func8, Try.ntmps8
        go_wp2_with (with_reducible refine wpList_fop rfl _ _ _ _ _ rfl rfl .f64 _ _ rfl rfl ?_; intro r m hr)
        go_ret
        exact ⟨_, rfl, rfl⟩
      · have hg : fcmp .gtr .f64 (fop .quo .f64 (nrm .f64 4607182418800017408) (nrm .f64 b)) (nrm .f64 0) = false := by simpa using hg
        go_enter Try.func8, Try.ntmps8
        go_wp2_with (with_reducible refine wpList_fop rfl _ _ _ _ _ rfl rfl .f64 _ _ rfl rfl ?_; intro r m hr)
        go_ret
        exact ⟨_, rfl, rfl⟩
    · have hz : fcmp .eql .f64 (nrm .f64 b) (nrm .f64 0) = false := by simpa using hz
      go_enter Try.func8, Try.ntmps8
      go_wp2
      go_ret
      exact ⟨0, rfl, rfl⟩

theorem single_facts : Ieee.single.signWeight = 2147483648 ∧ Ieee.single.binade = 8388608 ∧ Ieee.single.infRung = 2139095040 ∧ Ieee.single.leastPlace = -149 := by decide +kernel
theorem double_facts : Ieee.double.signWeight = 9223372036854775808 ∧ Ieee.double.binade = 4503599627370496 ∧ Ieee.double.infRung = 9218868437227405312 ∧ Ieee.double.leastPlace = -1074 ∧ Ieee.double.fractionBits = 52 := by decide +kernel

theorem nearest_rung (f : Ieee.Format) (s : Bool) (m : Nat) (e : Int) : ∃ r, f.nearest s m e = f.word s r ∧ r ≤ f.infRung := by
  unfold Ieee.Format.nearest
  dsimp only
  split
  · exact ⟨0, rfl, Nat.zero_le _⟩
  · exact ⟨_, rfl, Nat.min_le_right ..⟩

end Go.Proofs.Ytfamcgibcnldlaa
