/- Products of series of integers, plain algebra. Conditions: none. -/
namespace Go.Proofs.Ytlnjkjogedbhfaa

/-- The product of two series. -/
def cv (f g : Nat → Int) : Nat → Int
  | 0 => f 0 * g 0
  | n + 1 => f 0 * g (n + 1) + cv (fun i => f (i + 1)) g n

theorem cv_congr : ∀ {n : Nat} {f f2 g g2 : Nat → Int}, (∀ i, i ≤ n → f i = f2 i) → (∀ i, i ≤ n → g i = g2 i) → cv f g n = cv f2 g2 n
  | 0, _, _, _, _, hf, hg => by simp only [cv]; rw [hf 0 (Nat.le_refl _), hg 0 (Nat.le_refl _)]
  | n + 1, _, _, _, _, hf, hg => by
    simp only [cv]
    rw [hf 0 (Nat.zero_le _), hg (n + 1) (Nat.le_refl _), cv_congr (fun i hi => hf (i + 1) (by omega)) (fun i hi => hg i (by omega))]
theorem cv_add_left : ∀ (n : Nat) (f f2 g : Nat → Int), cv (fun i => f i + f2 i) g n = cv f g n + cv f2 g n
  | 0, f, f2, g => by simp only [cv]; rw [Int.add_mul]
  | n + 1, f, f2, g => by
    simp only [cv]
    rw [cv_add_left n (fun i => f (i + 1)) (fun i => f2 (i + 1)) g, Int.add_mul]
    omega
theorem cv_smul_left : ∀ (n : Nat) (c : Int) (f g : Nat → Int), cv (fun i => c * f i) g n = c * cv f g n
  | 0, c, f, g => by simp only [cv]; rw [Int.mul_assoc]
  | n + 1, c, f, g => by
    simp only [cv]
    rw [cv_smul_left n c (fun i => f (i + 1)) g, Int.mul_assoc, Int.mul_add]
theorem cv_right : ∀ (n : Nat) (f g : Nat → Int), cv f g (n + 1) = f (n + 1) * g 0 + cv f (fun i => g (i + 1)) n
  | 0, f, g => by simp only [cv]; omega
  | n + 1, f, g => by
    rw [cv, cv_right n (fun i => f (i + 1)) g, cv]
    omega
theorem cv_comm : ∀ (n : Nat) (f g : Nat → Int), cv f g n = cv g f n
  | 0, f, g => by simp only [cv]; rw [Int.mul_comm]
  | n + 1, f, g => by rw [cv, cv_right n g f, cv_comm n (fun i => f (i + 1)) g, Int.mul_comm]
theorem cv_add_right (n : Nat) (f g g2 : Nat → Int) : cv f (fun i => g i + g2 i) n = cv f g n + cv f g2 n := by
  rw [cv_comm, cv_add_left, cv_comm n g, cv_comm n g2]
theorem cv_smul_right (n : Nat) (c : Int) (f g : Nat → Int) : cv f (fun i => c * g i) n = c * cv f g n := by
  rw [cv_comm, cv_smul_left, cv_comm n g]
theorem cv_assoc : ∀ (n : Nat) (f g h : Nat → Int), cv (cv f g) h n = cv f (cv g h) n
  | 0, f, g, h => by simp only [cv]; rw [Int.mul_assoc]
  | n + 1, f, g, h => by
    have e : (fun i => cv f g (i + 1)) = fun i => (fun i => f 0 * g (i + 1)) i + cv (fun i => f (i + 1)) g i := by
      funext i; simp only [cv]
    rw [cv, e, cv_add_left, cv_smul_left, cv_assoc n (fun i => f (i + 1)) g h]
    show cv f g 0 * h (n + 1) + (f 0 * cv (fun i => g (i + 1)) h n + cv (fun i => f (i + 1)) (cv g h) n) = f 0 * cv g h (n + 1) + cv (fun i => f (i + 1)) (cv g h) n
    simp only [cv]
    rw [Int.mul_add, Int.mul_assoc]
    omega
theorem cv_neg_left (n : Nat) (f g : Nat → Int) : cv (fun i => - f i) g n = - cv f g n := by
  have h := cv_smul_left n (-1) f g
  have e : (fun i => (-1 : Int) * f i) = fun i => - f i := by funext i; omega
  rw [e] at h
  omega
theorem cv_sub_left (n : Nat) (f f2 g : Nat → Int) : cv (fun i => f i - f2 i) g n = cv f g n - cv f2 g n := by
  have h := cv_add_left n (fun i => f i - f2 i) f2 g
  have e : (fun i => f i - f2 i + f2 i) = f := by funext i; omega
  rw [e] at h
  omega
theorem cv_sub_right (n : Nat) (f g g2 : Nat → Int) : cv f (fun i => g i - g2 i) n = cv f g n - cv f g2 n := by
  rw [cv_comm, cv_sub_left, cv_comm n g, cv_comm n g2]
theorem cv_zero_left {n : Nat} {f : Nat → Int} (g : Nat → Int) (h : ∀ i, i ≤ n → f i = 0) : cv f g n = 0 := by
  rw [cv_congr (f2 := fun _ => 0 * 0) (g2 := g) (fun i hi => by rw [h i hi]; rfl) (fun _ _ => rfl), cv_smul_left n 0 (fun _ => 0) g, Int.zero_mul]
theorem cv_zero_right {n : Nat} (f : Nat → Int) {g : Nat → Int} (h : ∀ i, i ≤ n → g i = 0) : cv f g n = 0 := by
  rw [cv_comm]; exact cv_zero_left f h

/-- The series with one term. -/
def mono (k : Nat) (c : Int) : Nat → Int := fun i => if i = k then c else 0
theorem cv_mono : ∀ (n k : Nat) (c : Int) (g : Nat → Int), cv (mono k c) g n = if k ≤ n then c * g (n - k) else 0
  | 0, 0, c, g => by simp [cv, mono]
  | 0, k + 1, c, g => by simp [cv, mono]
  | n + 1, 0, c, g => by
    rw [cv, cv_zero_left g (fun i _ => by simp [mono])]
    simp [mono]
  | n + 1, k + 1, c, g => by
    have e : (fun i => mono (k + 1) c (i + 1)) = mono k c := by funext i; simp [mono]
    rw [cv, e, cv_mono n k c g]
    simp [mono]
theorem cv_one (n : Nat) (g : Nat → Int) : cv (mono 0 1) g n = g n := by rw [cv_mono]; simp
theorem cv_const (n : Nat) (c : Int) (g : Nat → Int) : cv (mono 0 c) g n = c * g n := by rw [cv_mono]; simp

/-- Beyond the degrees' sum there is nothing, and there the product of both last ones. -/
theorem cv_top : ∀ (a b : Nat) {f g : Nat → Int}, (∀ i, a < i → f i = 0) → (∀ i, b < i → g i = 0) → cv f g (a + b) = f a * g b
  | 0, b, f, g, hf, hg => by
    rw [cv_congr (f2 := mono 0 (f 0)) (g2 := g) (fun i _ => by
      unfold mono
      split
      · rename_i h; rw [h]
      · exact hf i (by omega)) (fun _ _ => rfl), cv_const, Nat.zero_add]
  | a + 1, b, f, g, hf, hg => by
    rw [show a + 1 + b = (a + b) + 1 by omega, cv, hg (a + b + 1) (by omega), cv_top a b (f := fun i => f (i + 1)) (fun i hi => hf (i + 1) (by omega)) hg]
    omega
theorem cv_beyond (a b : Nat) {f g : Nat → Int} (hf : ∀ i, a < i → f i = 0) (hg : ∀ i, b < i → g i = 0) {n : Nat} (h : a + b < n) : cv f g n = 0 := by
  rw [show n = a + (n - a) by omega, cv_top a (n - a) hf (fun i hi => hg i (by omega)), hg (n - a) (by omega), Int.mul_zero]

/-! The same up to multiples of a number. -/
def Eqm (m : Int) (f g : Nat → Int) : Prop := ∀ i, f i % m = g i % m
theorem Eqm.refl (m : Int) (f : Nat → Int) : Eqm m f f := fun _ => rfl
theorem Eqm.symm {m : Int} {f g : Nat → Int} (h : Eqm m f g) : Eqm m g f := fun i => (h i).symm
theorem Eqm.trans {m : Int} {f g k : Nat → Int} (h : Eqm m f g) (h2 : Eqm m g k) : Eqm m f k := fun i => (h i).trans (h2 i)
theorem emod_mul_congr {m a b c d : Int} (h : a % m = b % m) (h2 : c % m = d % m) : (a * c) % m = (b * d) % m := by
  rw [Int.mul_emod, h, h2, ← Int.mul_emod]
theorem emod_add_congr {m a b c d : Int} (h : a % m = b % m) (h2 : c % m = d % m) : (a + c) % m = (b + d) % m := by
  rw [Int.add_emod, h, h2, ← Int.add_emod]
theorem emod_sub_congr {m a b c d : Int} (h : a % m = b % m) (h2 : c % m = d % m) : (a - c) % m = (b - d) % m := by
  rw [Int.sub_emod, h, h2, ← Int.sub_emod]
theorem cv_eqm_n {m : Int} : ∀ {n : Nat} {f f2 g g2 : Nat → Int}, (∀ i, i ≤ n → f i % m = f2 i % m) → (∀ i, i ≤ n → g i % m = g2 i % m) → cv f g n % m = cv f2 g2 n % m
  | 0, _, _, _, _, hf, hg => emod_mul_congr (hf 0 (Nat.le_refl _)) (hg 0 (Nat.le_refl _))
  | n + 1, _, _, _, _, hf, hg => emod_add_congr (emod_mul_congr (hf 0 (Nat.zero_le _)) (hg (n + 1) (Nat.le_refl _))) (cv_eqm_n (fun i hi => hf (i + 1) (by omega)) (fun i hi => hg i (by omega)))
theorem Eqm.cv {m : Int} {f f2 g g2 : Nat → Int} (h : Eqm m f f2) (h2 : Eqm m g g2) : Eqm m (cv f g) (cv f2 g2) := fun _ => cv_eqm_n (fun i _ => h i) (fun i _ => h2 i)
theorem Eqm.add {m : Int} {f f2 g g2 : Nat → Int} (h : Eqm m f f2) (h2 : Eqm m g g2) : Eqm m (fun i => f i + g i) (fun i => f2 i + g2 i) := fun i => emod_add_congr (h i) (h2 i)
theorem Eqm.sub {m : Int} {f f2 g g2 : Nat → Int} (h : Eqm m f f2) (h2 : Eqm m g g2) : Eqm m (fun i => f i - g i) (fun i => f2 i - g2 i) := fun i => emod_sub_congr (h i) (h2 i)
theorem cv_top_m {m : Int} (a b : Nat) {f g : Nat → Int} (hf : ∀ i, a < i → f i % m = 0) (hg : ∀ i, b < i → g i % m = 0) : cv f g (a + b) % m = (f a * g b) % m := by
  have h := cv_eqm_n (m := m) (n := a + b) (f := f) (f2 := fun i => f i % m) (g := g) (g2 := fun i => g i % m) (fun i _ => by rw [Int.emod_emod]) (fun i _ => by rw [Int.emod_emod])
  rw [h, cv_top a b hf hg, ← Int.mul_emod]
theorem cv_beyond_m {m : Int} (a b : Nat) {f g : Nat → Int} (hf : ∀ i, a < i → f i % m = 0) (hg : ∀ i, b < i → g i % m = 0) {n : Nat} (h : a + b < n) : cv f g n % m = 0 := by
  have h1 := cv_eqm_n (m := m) (n := n) (f := f) (f2 := fun i => f i % m) (g := g) (g2 := fun i => g i % m) (fun i _ => by rw [Int.emod_emod]) (fun i _ => by rw [Int.emod_emod])
  rw [h1, cv_beyond a b hf hg h, Int.zero_emod]

end Go.Proofs.Ytlnjkjogedbhfaa
