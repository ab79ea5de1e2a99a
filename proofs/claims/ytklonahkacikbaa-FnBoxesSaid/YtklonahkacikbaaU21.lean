/- Drawn polynomials of up to four roots: their terms are exact; Gaussian integers. Conditions: roots in eighths, of 1-norm at most 24 eighths. -/
import Derived.Test.YtklonahkacikbaaU9
namespace Go.Proofs.Ytklonahkacikbaa
open Go
set_option linter.unusedSimpArgs false
set_option linter.unusedVariables false

def zm (u v : Int × Int) : Int × Int := (u.1 * v.1 - u.2 * v.2, u.1 * v.2 + u.2 * v.1)
def zs (u v : Int × Int) : Int × Int := (u.1 - v.1, u.2 - v.2)
def nz (u : Int × Int) : Nat := u.1.natAbs + u.2.natAbs
theorem nz_sub (u v : Int × Int) : nz (zs u v) ≤ nz u + nz v := by unfold nz zs; simp only; omega
theorem nz_mul (u v : Int × Int) : nz (zm u v) ≤ nz u * nz v := by
  unfold nz zm
  simp only
  rw [Nat.add_mul, Nat.mul_add, Nat.mul_add, ← Int.natAbs_mul, ← Int.natAbs_mul, ← Int.natAbs_mul, ← Int.natAbs_mul]
  omega
theorem Gr.mulB {x y : C2} {u v : Int × Int} {i j : Nat} (hx : Gr x u.1 u.2 i) (hy : Gr y v.1 v.2 j) (hu : nz u < 2 ^ 24) (hv : nz v < 2 ^ 24) (huv : nz u * nz v < 2 ^ 24) (hij : i + j ≤ 100) :
    fit2 (timesF x y) ∧ Gr (mulC x y) (zm u v).1 (zm u v).2 (i + j) := by
  have hz := nz_mul u v
  obtain ⟨a, b⟩ := u
  obtain ⟨c, d⟩ := v
  simp only [nz, zm] at *
  obtain ⟨⟨x1, x2⟩, x3, x4⟩ := hx.parts
  obtain ⟨⟨y1, y2⟩, y3, y4⟩ := hy.parts
  have b24 : p2 ((24 : Nat) : Int) ≤ p2 200 := p2_mono (by decide)
  have l1 := dy_lt (j := i) (n := 24) (a := a) (by omega)
  have l2 := dy_lt (j := i) (n := 24) (a := b) (by omega)
  have l3 := dy_lt (j := j) (n := 24) (a := c) (by omega)
  have l4 := dy_lt (j := j) (n := 24) (a := d) (by omega)
  rw [← x2] at l1
  rw [← x4] at l2
  rw [← y2] at l3
  rw [← y4] at l4
  obtain ⟨p1, p2'⟩ := prod_exact x1 y1 (by grind) (by grind)
  obtain ⟨q1, q2⟩ := prod_exact x3 y3 (by grind) (by grind)
  obtain ⟨r1, r2⟩ := prod_exact x1 y3 (by grind) (by grind)
  obtain ⟨s1, s2⟩ := prod_exact x3 y1 (by grind) (by grind)
  have hp : p2 (-((i + j : Nat) : Int)) = p2 (-(i : Int)) * p2 (-(j : Int)) := by rw [← p2_add]; congr 1; omega
  have n1 : (a * c - b * d).natAbs < 2 ^ 24 := by omega
  have n2 : (a * d + b * c).natAbs < 2 ^ 24 := by omega
  have e1' : vN .f32 x.1 * vN .f32 y.1 - vN .f32 x.2 * vN .f32 y.2 = ((a * c - b * d : Int) : Rat) * p2 (-((i + j : Nat) : Int)) := by
    rw [x2, x4, y2, y4, hp, Rat.intCast_sub, Rat.intCast_mul, Rat.intCast_mul]; grind
  have e2' : vN .f32 x.1 * vN .f32 y.2 + vN .f32 x.2 * vN .f32 y.1 = ((a * d + b * c : Int) : Rat) * p2 (-((i + j : Nat) : Int)) := by
    rw [x2, x4, y2, y4, hp, Rat.intCast_add, Rat.intCast_mul, Rat.intCast_mul]; grind
  obtain ⟨f1, g1, h1⟩ := (part_exact p1 p2' q1 q2 n1 hij).2 e1'
  obtain ⟨f2, g2, h2⟩ := (part_exact r1 r2 s1 s2 n2 hij).1 e2'
  exact ⟨⟨f1, f2⟩, ⟨g1, g2⟩, q2e (h1.trans e1') (h2.trans e2')⟩
theorem Gr.subB {x y : C2} {u v : Int × Int} {j : Nat} (hx : Gr x u.1 u.2 j) (hy : Gr y v.1 v.2 j) (h : nz u + nz v < 2 ^ 24) (hj : j ≤ 100) : Gr (subC x y) (zs u v).1 (zs u v).2 j := by
  have := nz_sub u v
  unfold nz at *
  exact hx.sub hy (by unfold zs at this; simp only at this; omega) (by unfold zs at this; simp only at this; omega) hj

/-- The terms in eighths. -/
def cz (X : Nat → Int × Int) : Nat → Nat → Int × Int
  | 0, k => if k = 0 then (1, 0) else (0, 0)
  | m + 1, k => zs (if k = 0 then (0, 0) else cz X m (k - 1)) (zm (X m) (cz X m k))
/-- Their bounds. -/
def bz : Nat → Nat → Nat
  | 0, k => if k = 0 then 1 else 0
  | m + 1, k => (if k = 0 then 0 else bz m (k - 1)) + 24 * bz m k
theorem cz_bd (X : Nat → Int × Int) (hX : ∀ i, nz (X i) ≤ 24) (m k : Nat) : nz (cz X m k) ≤ bz m k := by
  induction m generalizing k with
  | zero => unfold cz bz; split <;> decide
  | succ m ih =>
    unfold cz bz
    refine Nat.le_trans (nz_sub _ _) (Nat.add_le_add ?_ (Nat.le_trans (nz_mul _ _) (Nat.mul_le_mul (hX m) (ih k))))
    split
    · decide
    · exact ih _
theorem cz_over (X : Nat → Int × Int) (m k : Nat) (h : m < k) : cz X m k = (0, 0) := by
  induction m generalizing k with
  | zero => unfold cz; rw [if_neg (by omega)]
  | succ m ih => unfold cz; rw [if_neg (by omega), ih _ (by omega), ih _ (by omega)]; simp [zs, zm]
theorem bz_lt : ∀ m, m < 5 → ∀ k, k < 6 → bz m k < 2 ^ 19 := by decide +kernel
theorem bz_over (m k : Nat) (h : m < k) : bz m k = 0 := by
  induction m generalizing k with
  | zero => unfold bz; rw [if_neg (by omega)]
  | succ m ih => unfold bz; rw [if_neg (by omega), ih _ (by omega), ih _ (by omega)]
/-- The terms are exact. -/
theorem roots_exact {L : List C2} {X : Nat → Int × Int} (hX : ∀ i, nz (X i) ≤ 24) {m : Nat} (hm : m ≤ 4) (h : ∀ i, i < m → Gr (L.getD i (0, 0)) (X i).1 (X i).2 3) :
    (∀ k : Nat, Gr (catF (rootsL L m) k) (cz X m k).1 (cz X m k).2 (3 * (m - k))) ∧ ∀ i, i < m → ∀ k : Nat, k < i + 2 → fit2 (timesF (L.getD i (0, 0)) (catF (rootsL L i) k)) := by
  induction m with
  | zero =>
    refine ⟨fun k => ?_, fun i hi => absurd hi (by omega)⟩
    by_cases hk : k = 0
    · subst hk; exact Gr.one
    · rw [catF_over (by rw [rootsL_length]; omega), cz_over X 0 k (by omega)]; exact Gr.zero _
  | succ m ih =>
    obtain ⟨ih1, ih2⟩ := ih (by omega) (fun i hi => h i (by omega))
    have hxm := h m (by omega)
    have hlt : ∀ k, nz (cz X m k) < 2 ^ 19 := fun k => by
      by_cases hk : m < k
      · rw [cz_over X m k hk]; decide
      · exact Nat.lt_of_le_of_lt (cz_bd X hX m k) (bz_lt m (by omega) k (by omega))
    have hmul : ∀ k : Nat, fit2 (timesF (L.getD m (0, 0)) (catF (rootsL L m) k)) ∧ Gr (mulC (L.getD m (0, 0)) (catF (rootsL L m) k)) (zm (X m) (cz X m k)).1 (zm (X m) (cz X m k)).2 (3 + 3 * (m - k)) := fun k =>
      Gr.mulB (u := X m) (v := cz X m k) hxm (ih1 k) (by have := hX m; omega) (Nat.lt_trans (hlt k) (by decide)) (by
        have := Nat.mul_le_mul (hX m) (Nat.le_of_lt (hlt k))
        omega) (by omega)
    refine ⟨fun k => ?_, fun i hi k hk => ?_⟩
    · by_cases hk : m + 1 < k
      · rw [catF_over (by rw [rootsL_length]; omega), cz_over X (m + 1) k hk]; exact Gr.zero _
      · have e : catF (rootsL L (m + 1)) k = rootG (L.getD m (0, 0)) (rootsL L m) k := by
          rw [catF_in, rootsL_succ, rootsL_length]
          simp [List.getD, show k < m + 2 by omega]
        rw [e]
        unfold rootG
        have hs : 3 * (m + 1 - k) = 3 * (m + 1 - k) := rfl
        have hb : nz (zm (X m) (cz X m k)) < 2 ^ 23 + 2 ^ 22 + 1 := by
          have a1 := nz_mul (X m) (cz X m k)
          have a2 := Nat.mul_le_mul (hX m) (Nat.le_of_lt (hlt k))
          omega
        have hprod : Gr (mulC (L.getD m (0, 0)) (catF (rootsL L m) k)) (zm (X m) (cz X m k)).1 (zm (X m) (cz X m k)).2 (3 * (m + 1 - k)) := by
          by_cases hkm : k ≤ m
          · have := (hmul k).2
            rwa [show 3 + 3 * (m - k) = 3 * (m + 1 - k) by omega] at this
          · have hz : zm (X m) (cz X m k) = (0, 0) := by rw [cz_over X m k (by omega)]; simp [zm]
            have := (hmul k).2
            rw [hz] at this ⊢
            exact this.zero_to _
        show Gr _ (zs (if k = 0 then (0, 0) else cz X m (k - 1)) (zm (X m) (cz X m k))).1 (zs (if k = 0 then (0, 0) else cz X m (k - 1)) (zm (X m) (cz X m k))).2 _
        by_cases hk0 : k = 0
        · subst hk0
          rw [if_pos rfl, catF_neg (by decide)]
          exact (Gr.zero _).subB (u := (0, 0)) hprod (by show 0 + _ < _; omega) (by omega)
        · rw [if_neg hk0, show ((k : Int) - 1) = ((k - 1 : Nat) : Int) by omega]
          have h1 := ih1 (k - 1)
          rw [show 3 * (m - (k - 1)) = 3 * (m + 1 - k) by omega] at h1
          exact h1.subB hprod (by have := hlt (k - 1); omega) (by omega)
    · by_cases him : i < m
      · exact ih2 i him k hk
      · obtain rfl : i = m := by omega
        exact (hmul k).1
end Go.Proofs.Ytklonahkacikbaa

/- Values of drawn polynomials, exactly: they are products; they are 0 at the roots. Conditions: as before. -/
namespace Go.Proofs.Ytklonahkacikbaa
open Go
set_option linter.unusedSimpArgs false
set_option linter.unusedVariables false

def za (u v : Int × Int) : Int × Int := (u.1 + v.1, u.2 + v.2)
/-- Horner's partial values from the top. -/
def ez (X : Nat → Int × Int) (m : Nat) (Z : Int × Int) : Nat → Int × Int
  | 0 => cz X m m
  | j + 1 => za (zm (ez X m Z j) Z) (cz X m (m - j - 1))
theorem ez_step (X : Nat → Int × Int) (m : Nat) (Z : Int × Int) (j : Nat) (hj : j < m) : ez X (m + 1) Z (j + 1) = zs (ez X m Z (j + 1)) (zm (X m) (ez X m Z j)) := by
  induction j with
  | zero =>
    have h0 : ez X (m + 1) Z 0 = cz X m m := by
      show cz X (m + 1) (m + 1) = _
      rw [cz, if_neg (by omega), cz_over X m (m + 1) (by omega)]
      simp [zs, zm]
    show za (zm (ez X (m + 1) Z 0) Z) (cz X (m + 1) (m + 1 - 0 - 1)) = zs (za (zm (cz X m m) Z) (cz X m (m - 0 - 1))) (zm (X m) (cz X m m))
    rw [h0, show m + 1 - 0 - 1 = m by omega, cz, if_neg (by omega), show m - 0 - 1 = m - 1 by omega]
    simp only [za, zs, zm, Prod.mk.injEq]
    constructor <;> grind
  | succ j ih =>
    have ih := ih (by omega)
    show za (zm (ez X (m + 1) Z (j + 1)) Z) (cz X (m + 1) (m + 1 - (j + 1) - 1)) = zs (za (zm (ez X m Z (j + 1)) Z) (cz X m (m - (j + 1) - 1))) (zm (X m) (ez X m Z (j + 1)))
    have e1 : ez X m Z (j + 1) = za (zm (ez X m Z j) Z) (cz X m (m - j - 1)) := rfl
    rw [ih, show m + 1 - (j + 1) - 1 = m - j - 1 by omega, cz, if_neg (by omega), show m - (j + 1) - 1 = m - j - 1 - 1 by omega, e1]
    generalize ez X m Z j = e
    generalize cz X m (m - j - 1) = c
    generalize cz X m (m - j - 1 - 1) = d
    simp only [za, zs, zm, Prod.mk.injEq]
    constructor <;> grind
/-- One root more is one factor more. -/
theorem ez_mul (X : Nat → Int × Int) (m : Nat) (Z : Int × Int) : ez X (m + 1) Z (m + 1) = zm (zs Z (X m)) (ez X m Z m) := by
  cases m with
  | zero =>
    show za (zm (cz X 1 1) Z) (cz X 1 0) = zm (zs Z (X 0)) (cz X 0 0)
    simp [cz, za, zs, zm]
    constructor <;> grind
  | succ m =>
    have h := ez_step X (m + 1) Z m (by omega)
    show za (zm (ez X (m + 1 + 1) Z (m + 1)) Z) (cz X (m + 1 + 1) (m + 1 + 1 - (m + 1) - 1)) = _
    have e1 : ez X (m + 1) Z (m + 1) = za (zm (ez X (m + 1) Z m) Z) (cz X (m + 1) 0) := by
      show za _ (cz X (m + 1) (m + 1 - m - 1)) = _
      rw [show m + 1 - m - 1 = 0 by omega]
    rw [h, show m + 1 + 1 - (m + 1) - 1 = 0 by omega, cz, if_pos rfl, e1]
    generalize ez X (m + 1) Z m = e
    generalize cz X (m + 1) 0 = c
    simp only [za, zs, zm, Prod.mk.injEq]
    constructor <;> grind
theorem ez_root (X : Nat → Int × Int) (m i : Nat) (hi : i < m) : ez X m (X i) m = (0, 0) := by
  induction m with
  | zero => omega
  | succ m ih =>
    rw [ez_mul]
    by_cases h : i = m
    · subst h; simp [zm, zs]
    · rw [ih (by omega)]; simp [zm]
end Go.Proofs.Ytklonahkacikbaa

/- Values of drawn polynomials at eighths: exact, safe; 0 at the roots. Conditions: up to four roots, points in eighths of 1-norm at most 24 eighths. -/
namespace Go.Proofs.Ytklonahkacikbaa
open Go
set_option linter.unusedSimpArgs false
set_option linter.unusedVariables false

theorem nz_add (u v : Int × Int) : nz (za u v) ≤ nz u + nz v := by unfold nz za; simp only; omega
theorem Gr.addB {x y : C2} {u v : Int × Int} {j : Nat} (hx : Gr x u.1 u.2 j) (hy : Gr y v.1 v.2 j) (h : nz u + nz v < 2 ^ 24) (hj : j ≤ 100) : Gr (addC x y) (za u v).1 (za u v).2 j := by
  have hn := nz_add u v
  obtain ⟨a, b⟩ := u
  obtain ⟨c, d⟩ := v
  simp only [nz, za] at *
  obtain ⟨⟨x1, x2⟩, x3, x4⟩ := hx.parts
  obtain ⟨⟨y1, y2⟩, y3, y4⟩ := hy.parts
  have ha : (a + c).natAbs < 2 ^ 24 := by omega
  have hb : (b + d).natAbs < 2 ^ 24 := by omega
  have h25 : p2 ((24 : Nat) : Int) ≤ p2 127 := p2_mono (by decide)
  have e1' : vN .f32 x.1 + vN .f32 y.1 = ((a + c : Int) : Rat) * p2 (-(j : Int)) := by rw [x2, y2, Rat.intCast_add]; grind
  have e2' : vN .f32 x.2 + vN .f32 y.2 = ((b + d : Int) : Rat) * p2 (-(j : Int)) := by rw [x4, y4, Rat.intCast_add]; grind
  have l1 := dy_lt (j := j) ha
  have l2 := dy_lt (j := j) hb
  have R1 := fop_add_res (k := .f32) x1 y1 (by rw [e1']; show _ < p2 127; grind)
  have R2 := fop_add_res (k := .f32) x3 y3 (by rw [e2']; show _ < p2 127; grind)
  exact ⟨⟨R1.1, R2.1⟩, q2e ((exact32 R1 e1' ha hj).trans e1') ((exact32 R2 e2' hb hj).trans e2')⟩

def eb (m : Nat) : Nat → Nat
  | 0 => bz m m
  | j + 1 => eb m j * 24 + bz m (m - j - 1)
theorem ez_bd (X : Nat → Int × Int) (hX : ∀ i, nz (X i) ≤ 24) (m : Nat) (Z : Int × Int) (hZ : nz Z ≤ 24) (j : Nat) : nz (ez X m Z j) ≤ eb m j := by
  induction j with
  | zero => exact cz_bd X hX m m
  | succ j ih => exact Nat.le_trans (nz_add _ _) (Nat.add_le_add (Nat.le_trans (nz_mul _ _) (Nat.mul_le_mul ih hZ)) (cz_bd X hX m _))
theorem eb_lt : ∀ m, m < 5 → ∀ j, j < 5 → j ≤ m → eb m j < 2 ^ 23 := by decide +kernel
theorem eb_lt2 : ∀ m, m < 5 → ∀ j, j < 5 → j < m → eb m j * 24 + bz m (m - j - 1) < 2 ^ 24 := by decide +kernel

theorem horner_exact {L : List C2} {X : Nat → Int × Int} (hX : ∀ i, nz (X i) ≤ 24) {m : Nat} (hm : m ≤ 4) (h : ∀ i, i < m → Gr (L.getD i (0, 0)) (X i).1 (X i).2 3) {z : C2} {Z : Int × Int} (hz : Gr z Z.1 Z.2 3) (hZ : nz Z ≤ 24) :
    ∀ d j, j + d = m → ∀ v, Gr v (ez X m Z j).1 (ez X m Z j).2 (3 * j) → safeH (rootsL L m) z d v ∧ Gr (horner (rootsL L m) z d v) (ez X m Z m).1 (ez X m Z m).2 (3 * m) := by
  intro d
  induction d with
  | zero =>
    intro j hj v hv
    obtain rfl : j = m := by omega
    exact ⟨trivial, hv⟩
  | succ d ih =>
    intro j hj v hv
    have b1 := ez_bd X hX m Z hZ j
    have b2 := eb_lt m (by omega) j (by omega) (by omega)
    have b3 := eb_lt2 m (by omega) j (by omega) (by omega)
    have b4 := Nat.mul_le_mul b1 hZ
    obtain ⟨f, g⟩ := Gr.mulB (u := ez X m Z j) (v := Z) hv hz (by omega) (by omega) (by omega) (by omega)
    have T := (roots_exact hX hm h).1 d
    rw [catF_in] at T
    have hd : m - j - 1 = d := by omega
    rw [show 3 * (m - d) = 3 * (j + 1) by omega] at T
    have hs := Gr.addB (u := zm (ez X m Z j) Z) (v := cz X m d) (show Gr (mulC v z) _ _ (3 * (j + 1)) from g) T (by
      have := nz_mul (ez X m Z j) Z
      have := cz_bd X hX m d
      rw [hd] at b3
      omega) (by omega)
    have he : ez X m Z (j + 1) = za (zm (ez X m Z j) Z) (cz X m d) := by rw [← hd]; rfl
    rw [← he] at hs
    obtain ⟨i1, i2⟩ := ih (j + 1) (by omega) _ hs
    exact ⟨⟨f, i1⟩, i2⟩
/-- The value of the polynomial of roots at a point. -/
theorem value_exact {L : List C2} {X : Nat → Int × Int} (hX : ∀ i, nz (X i) ≤ 24) {m : Nat} (hm : m ≤ 4) (h : ∀ i, i < m → Gr (L.getD i (0, 0)) (X i).1 (X i).2 3) {z : C2} {Z : Int × Int} (hz : Gr z Z.1 Z.2 3) (hZ : nz Z ≤ 24) :
    safeN (rootsL L m) z ∧ Gr (nestedF (rootsL L m) z) (ez X m Z m).1 (ez X m Z m).2 (3 * m) := by
  unfold safeN nestedF
  rw [rootsL_length, show m + 1 - 1 = m by omega]
  have T := (roots_exact hX hm h).1 m
  rw [catF_in, show 3 * (m - m) = 3 * 0 by omega] at T
  exact horner_exact hX hm h hz hZ m 0 (by omega) _ T
/-- At a root it is 0. -/
theorem root_value {L : List C2} {X : Nat → Int × Int} (hX : ∀ i, nz (X i) ≤ 24) {m : Nat} (hm : m ≤ 4) (h : ∀ i, i < m → Gr (L.getD i (0, 0)) (X i).1 (X i).2 3) {i : Nat} (hi : i < m) :
    safeN (rootsL L m) (L.getD i (0, 0)) ∧ Gr (nestedF (rootsL L m) (L.getD i (0, 0))) 0 0 (3 * m) := by
  have := value_exact hX hm h (h i hi) (hX i)
  rw [ez_root X m i hi] at this
  exact this
end Go.Proofs.Ytklonahkacikbaa

/- The polynomial of up to four drawn roots. Conditions: roots as they are drawn. -/
namespace Go.Proofs.Ytklonahkacikbaa
open Go
set_option linter.unusedSimpArgs false
set_option linter.unusedVariables false

/-- The eighths of the drawn roots. -/
structure DX (ls : List C2) (X : Nat → Int × Int) : Prop where
  b : ∀ i, nz (X i) ≤ 24
  g : ∀ i, i < ls.length → Gr ((ls.map nc).getD i (0, 0)) (X i).1 (X i).2 3
  x : ∀ i, i < ls.length → 8 * (i : Int) - 12 ≤ (X i).1 ∧ (X i).1 ≤ 8 * (i : Int) - 8
  y : ∀ i, i < ls.length → -8 ≤ (X i).2 ∧ (X i).2 ≤ 8
theorem DL.ex {ls : List C2} (h : DL ls) (h4 : ls.length ≤ 4) : ∃ X, DX ls X := by
  have hc : ∀ i : Nat, ∃ u : Int × Int, nz u ≤ 24 ∧ (i < ls.length → Gr ((ls.map nc).getD i (0, 0)) u.1 u.2 3 ∧ (8 * (i : Int) - 12 ≤ u.1 ∧ u.1 ≤ 8 * (i : Int) - 8) ∧ -8 ≤ u.2 ∧ u.2 ≤ 8) := by
    intro i
    by_cases hi : i < ls.length
    · obtain ⟨x, y, g, a, b, c, d⟩ := h.d i hi
      refine ⟨(x, y), by unfold nz; simp only; omega, fun _ => ⟨by rw [getD_nc]; exact g, ⟨a, b⟩, c, d⟩⟩
    · exact ⟨(0, 0), by decide, fun hh => absurd hh hi⟩
  have hn : ∀ n : Nat, ∃ X : Nat → Int × Int, (∀ i, nz (X i) ≤ 24) ∧ ∀ i, i < n → (i < ls.length → Gr ((ls.map nc).getD i (0, 0)) (X i).1 (X i).2 3 ∧ (8 * (i : Int) - 12 ≤ (X i).1 ∧ (X i).1 ≤ 8 * (i : Int) - 8) ∧ -8 ≤ (X i).2 ∧ (X i).2 ≤ 8) := by
    intro n
    induction n with
    | zero => exact ⟨fun _ => (0, 0), fun _ => (by decide : nz (0, 0) ≤ 24), fun i hi => absurd hi (by omega)⟩
    | succ n ih =>
      obtain ⟨X, hX1, hX2⟩ := ih
      obtain ⟨u, hu1, hu2⟩ := hc n
      refine ⟨fun i => if i = n then u else X i, fun i => ?_, fun i hi => ?_⟩
      · by_cases h : i = n
        · simp only [if_pos h]; exact hu1
        · simp only [if_neg h]; exact hX1 i
      · by_cases h : i = n
        · subst h; simp only [if_true]; exact hu2
        · simp only [if_neg h]; exact hX2 i (by omega)
  obtain ⟨X, hX1, hX2⟩ := hn ls.length
  exact ⟨X, hX1, fun i hi => (hX2 i hi hi).1, fun i hi => (hX2 i hi hi).2.1, fun i hi => (hX2 i hi hi).2.2⟩
theorem cz_top (X : Nat → Int × Int) (m : Nat) : cz X m m = (1, 0) := by
  induction m with
  | zero => rfl
  | succ m ih => rw [cz, if_neg (by omega), cz_over X m (m + 1) (by omega), show m + 1 - 1 = m by omega, ih]; simp [zs, zm]
/-- The polynomial is valid, has roots, and its terms are those of the exact product. -/
theorem DX.poly {ls : List C2} {X : Nat → Int × Int} (h : DX ls X) (h1 : 1 ≤ ls.length) (h4 : ls.length ≤ 4) :
    safeRoots (ls.map nc) ∧ polyF (rootsL (ls.map nc) ls.length) = (rootsL (ls.map nc) ls.length, true) ∧ rootedF (rootsL (ls.map nc) ls.length) = true := by
  obtain ⟨e1', e2'⟩ := roots_exact h.b h4 h.g
  refine ⟨fun i hi k hk => ?_, ?_⟩
  · rw [List.length_map] at hi
    have := e2' i hi k hk
    exact this
  · have htop := e1' ls.length
    rw [cz_top, show 3 * (ls.length - ls.length) = 0 by omega] at htop
    refine poly_full (w := catF (rootsL (ls.map nc) ls.length) ls.length) (by rw [rootsL_length]; omega) ?_ ?_ htop
    · rw [List.all_eq_true]
      intro x hx
      obtain ⟨i, hi, rfl⟩ := List.getElem_of_mem hx
      have := finG (e1' i)
      rw [catF_in] at this
      rwa [show (rootsL (ls.map nc) ls.length).getD i (0, 0) = (rootsL (ls.map nc) ls.length)[i] by simp [List.getD, hi]] at this
    · rw [rootsL_length, catF_in, show ls.length + 1 - 1 = ls.length by omega]
end Go.Proofs.Ytklonahkacikbaa

/- One root more: what it does to the value of a polynomial, to that of its slope, and to that of the slope of this. Conditions: none. -/
namespace Go.Proofs.Ytklonahkacikbaa
open Go
set_option linter.unusedSimpArgs false
set_option linter.unusedVariables false

def zero2 : Q2 := ⟨0, 0⟩
/-- The values of polynomials of one to five terms, of their slopes, of the slopes of these. -/
def v1 (c0 c1 z : Q2) : Q2 := c1 * z + c0
def v2 (c0 c1 c2 z : Q2) : Q2 := (c2 * z + c1) * z + c0
def v3 (c0 c1 c2 c3 z : Q2) : Q2 := ((c3 * z + c2) * z + c1) * z + c0
def v4 (c0 c1 c2 c3 c4 z : Q2) : Q2 := (((c4 * z + c3) * z + c2) * z + c1) * z + c0
def sc (k : Rat) (c : Q2) : Q2 := ⟨k * c.re, k * c.im⟩
@[simp] theorem re_sc (k : Rat) (c : Q2) : (sc k c).re = k * c.re := rfl
@[simp] theorem im_sc (k : Rat) (c : Q2) : (sc k c).im = k * c.im := rfl
theorem up1 (c0 c1 z r : Q2) : v2 (zero2 - r * c0) (c0 - r * c1) c1 z = (z - r) * v1 c0 c1 z ∧ v1 (c0 - r * c1) (sc 2 c1) z = v1 c0 c1 z + (z - r) * c1 ∧ sc 2 c1 = sc 2 c1 + (z - r) * zero2 := by
  refine ⟨q2e ?_ ?_, q2e ?_ ?_, q2e ?_ ?_⟩ <;> (simp [v1, v2, zero2]; try grind)
theorem up2 (c0 c1 c2 z r : Q2) : v3 (zero2 - r * c0) (c0 - r * c1) (c1 - r * c2) c2 z = (z - r) * v2 c0 c1 c2 z ∧ v2 (c0 - r * c1) (sc 2 (c1 - r * c2)) (sc 3 c2) z = v2 c0 c1 c2 z + (z - r) * v1 c1 (sc 2 c2) z ∧
    v1 (sc 2 (c1 - r * c2)) (sc 6 c2) z = sc 2 (v1 c1 (sc 2 c2) z) + (z - r) * sc 2 c2 := by
  refine ⟨q2e ?_ ?_, q2e ?_ ?_, q2e ?_ ?_⟩ <;> (simp [v1, v2, v3, zero2]; try grind)
theorem up3 (c0 c1 c2 c3 z r : Q2) : v4 (zero2 - r * c0) (c0 - r * c1) (c1 - r * c2) (c2 - r * c3) c3 z = (z - r) * v3 c0 c1 c2 c3 z ∧
    v3 (c0 - r * c1) (sc 2 (c1 - r * c2)) (sc 3 (c2 - r * c3)) (sc 4 c3) z = v3 c0 c1 c2 c3 z + (z - r) * v2 c1 (sc 2 c2) (sc 3 c3) z ∧
    v2 (sc 2 (c1 - r * c2)) (sc 6 (c2 - r * c3)) (sc 12 c3) z = sc 2 (v2 c1 (sc 2 c2) (sc 3 c3) z) + (z - r) * v1 (sc 2 c2) (sc 6 c3) z := by
  refine ⟨q2e ?_ ?_, q2e ?_ ?_, q2e ?_ ?_⟩ <;> (simp [v1, v2, v3, v4, zero2]; try grind)
end Go.Proofs.Ytklonahkacikbaa

/- The values beside a root, divided by the product of the distances to the others. Conditions: the distances to the others have inverses. -/
namespace Go.Proofs.Ytklonahkacikbaa
open Go
set_option linter.unusedSimpArgs false
set_option linter.unusedVariables false

@[simp] theorem re_one2 : one2.re = 1 := rfl
@[simp] theorem im_one2 : one2.im = 0 := rfl
@[simp] theorem re_zero2 : zero2.re = 0 := rfl
@[simp] theorem im_zero2 : zero2.im = 0 := rfl
theorem inv_parts {u d : Q2} (h : u * d = one2) : u.re * d.re - u.im * d.im = 1 ∧ u.re * d.im + u.im * d.re = 0 := ⟨congrArg Q2.re h, congrArg Q2.im h⟩
theorem out_v {u d v K : Q2} (h : u * d = one2) : (d * v) * (u * K) = v * K := by
  obtain ⟨h1, h2⟩ := inv_parts h
  refine q2e ?_ ?_ <;> (simp; grind)
theorem out_s {u d v s K : Q2} (h : u * d = one2) : (v + d * s) * (u * K) = u * (v * K) + s * K := by
  obtain ⟨h1, h2⟩ := inv_parts h
  refine q2e ?_ ?_ <;> (simp; grind)
theorem out_t {u d s t K : Q2} (h : u * d = one2) : (sc 2 s + d * t) * (u * K) = sc 2 (u * (s * K)) + t * K := by
  obtain ⟨h1, h2⟩ := inv_parts h
  refine q2e ?_ ?_ <;> (simp; grind)
theorem in_v {d v K : Q2} : (d * v) * K = d * (v * K) := by refine q2e ?_ ?_ <;> (simp; grind)
theorem in_s {d v s K : Q2} : (v + d * s) * K = v * K + d * (s * K) := by refine q2e ?_ ?_ <;> (simp; grind)
theorem in_t {d s t K : Q2} : (sc 2 s + d * t) * K = sc 2 (s * K) + d * (t * K) := by refine q2e ?_ ?_ <;> (simp; grind)

/-- Value, slope, and the slope of this, of the product of the first distances. -/
def VV (d : Nat → Q2) : Nat → Q2 × Q2 × Q2
  | 0 => (one2, zero2, zero2)
  | m + 1 => (d m * (VV d m).1, (VV d m).1 + d m * (VV d m).2.1, sc 2 (VV d m).2.1 + d m * (VV d m).2.2)
/-- The product of the inverses but that of one; their sum; the sum of the products of two of them. -/
def KK (u : Nat → Q2) (i : Nat) : Nat → Q2
  | 0 => one2
  | m + 1 => if m = i then KK u i m else u m * KK u i m
def WW (u : Nat → Q2) (i : Nat) : Nat → Q2
  | 0 => zero2
  | m + 1 => if m = i then WW u i m else u m + WW u i m
def EE (u : Nat → Q2) (i : Nat) : Nat → Q2
  | 0 => zero2
  | m + 1 => if m = i then EE u i m else EE u i m + u m * WW u i m
/-- The product of the others' distances. -/
def PP (d : Nat → Q2) (i : Nat) : Nat → Q2
  | 0 => one2
  | m + 1 => if m = i then PP d i m else d m * PP d i m

theorem norm_before {d u : Nat → Q2} {i M : Nat} (h : ∀ j, j < M → j ≠ i → u j * d j = one2) (m : Nat) (hm : m ≤ i) (hM : m ≤ M) :
    (VV d m).1 * KK u i m = one2 ∧ (VV d m).2.1 * KK u i m = WW u i m ∧ (VV d m).2.2 * KK u i m = sc 2 (EE u i m) := by
  induction m with
  | zero => refine ⟨q2e ?_ ?_, q2e ?_ ?_, q2e ?_ ?_⟩ <;> (simp [VV, KK, WW, EE] <;> grind)
  | succ m ih =>
    obtain ⟨a, b, c⟩ := ih (by omega) (by omega)
    have hm' : m ≠ i := by omega
    have hu := h m (by omega) hm'
    rw [KK, WW, EE, if_neg hm', if_neg hm', if_neg hm']
    refine ⟨?_, ?_, ?_⟩
    · rw [VV, out_v hu, a]
    · rw [VV, out_s hu, a, b]; refine q2e ?_ ?_ <;> (simp; try grind)
    · rw [VV, out_t hu, b, c]; refine q2e ?_ ?_ <;> (simp; try grind)
theorem norm_after {d u : Nat → Q2} {i M : Nat} (h : ∀ j, j < M → j ≠ i → u j * d j = one2) (m : Nat) (hm : i < m) (hM : m ≤ M) :
    (VV d m).1 * KK u i m = d i ∧ (VV d m).2.1 * KK u i m = one2 + d i * WW u i m ∧ (VV d m).2.2 * KK u i m = sc 2 (WW u i m) + sc 2 (d i * EE u i m) := by
  induction m with
  | zero => omega
  | succ m ih =>
    by_cases hmi : m = i
    · subst hmi
      obtain ⟨a, b, c⟩ := norm_before h m (Nat.le_refl _) (by omega)
      rw [KK, WW, EE, if_pos rfl, if_pos rfl, if_pos rfl]
      refine ⟨?_, ?_, ?_⟩
      · rw [VV, in_v, a]; refine q2e ?_ ?_ <;> (simp; try grind)
      · rw [VV, in_s, a, b]
      · rw [VV, in_t, b, c]; refine q2e ?_ ?_ <;> (simp; try grind)
    · obtain ⟨a, b, c⟩ := ih (by omega) (by omega)
      have hu := h m (by omega) hmi
      rw [KK, WW, EE, if_neg hmi, if_neg hmi, if_neg hmi]
      refine ⟨?_, ?_, ?_⟩
      · rw [VV, out_v hu, a]
      · rw [VV, out_s hu, a, b]; refine q2e ?_ ?_ <;> (simp; try grind)
      · rw [VV, out_t hu, b, c]; refine q2e ?_ ?_ <;> (simp; try grind)
theorem KP {d u : Nat → Q2} {i M : Nat} (h : ∀ j, j < M → j ≠ i → u j * d j = one2) (m : Nat) (hM : m ≤ M) : KK u i m * PP d i m = one2 := by
  induction m with
  | zero => refine q2e ?_ ?_ <;> (simp [KK, PP] <;> grind)
  | succ m ih =>
    have ih := ih (by omega)
    by_cases hmi : m = i
    · rw [KK, PP, if_pos hmi, if_pos hmi]; exact ih
    · rw [KK, PP, if_neg hmi, if_neg hmi]
      obtain ⟨h1, h2⟩ := inv_parts (h m (by omega) hmi)
      obtain ⟨h3, h4⟩ := inv_parts ih
      refine q2e ?_ ?_ <;> (simp; grind)
end Go.Proofs.Ytklonahkacikbaa

/- Bounds of the inverses of the distances beside a root, of their sums and products. Conditions: roots as they are drawn. -/
namespace Go.Proofs.Ytklonahkacikbaa
open Go
set_option linter.unusedSimpArgs false
set_option linter.unusedVariables false

theorem N_one2 : N one2 = 1 := by decide +kernel
theorem N_zero2 : N zero2 = 0 := by decide +kernel
theorem inv_norm {u d : Q2} (h : u * d = one2) (hd : 0 < N d) : N u * (4 * A d.re) ≤ 5 ∧ N d * N u ≤ 2 := by
  have h1 := quo_sq h
  rw [N_one2] at h1
  have h2 := sqN_pos hd
  have h3 := sqN_ge d
  have hx := A_nonneg d.re
  have hy := A_nonneg d.im
  have h4 : 4 * A d.re * N d ≤ 5 * sqN d := by
    have e := sq_nonneg (A d.re - 2 * A d.im)
    have e2 := sq_nonneg (A d.im)
    unfold sqN N
    rw [sq_A d.re, sq_A d.im]
    grind
  constructor
  · refine lcancel_le h2 ?_
    have k := Rat.mul_le_mul_of_nonneg_left h1 (show 0 ≤ 4 * A d.re by grind)
    grind
  · refine lcancel_le h2 ?_
    have k := Rat.mul_le_mul_of_nonneg_left h1 (Rat.le_of_lt hd)
    grind
/-- How far the others lie, in 64ths. -/
def bL (i j : Nat) : Nat := if j < i then 64 * (i - j) - 31 else 64 * (j - i) - 33
def ub (i j : Nat) : Rat := 80 / (bL i j : Nat)
def KB (i : Nat) : Nat → Rat | 0 => 1 | m + 1 => if m = i then KB i m else ub i m * KB i m
def WB (i : Nat) : Nat → Rat | 0 => 0 | m + 1 => if m = i then WB i m else ub i m + WB i m
def EB (i : Nat) : Nat → Rat | 0 => 0 | m + 1 => if m = i then EB i m else EB i m + ub i m * WB i m
def CB (i : Nat) : Nat → Rat | 0 => 1 | m + 1 => if m = i then CB i m else 2 * CB i m
theorem KB_nn (i m : Nat) (h : ∀ j, 0 ≤ ub i j) : 0 ≤ KB i m := by
  induction m with
  | zero => show (0 : Rat) ≤ 1; decide
  | succ m ih => rw [KB]; split; exact ih; exact Rat.mul_nonneg (h m) ih
theorem ub_mul {i j : Nat} (h : bL i j ≠ 0) : ub i j * (bL i j : Nat) = 80 := by
  unfold ub
  rw [Rat.div_def, Rat.mul_assoc, Rat.inv_mul_cancel _ (by exact_mod_cast h)]
  decide +kernel
theorem ub_nn (i j : Nat) : 0 ≤ ub i j := by
  by_cases h : bL i j = 0
  · unfold ub; rw [h]; decide +kernel
  · have hp : (0 : Rat) < (bL i j : Nat) := by exact_mod_cast Nat.pos_of_ne_zero h
    refine lcancel_le hp ?_
    rw [ub_mul h]; grind
section
variable {u d : Nat → Q2} {i n : Nat}
theorem KK_le (hu : ∀ j, j < n → j ≠ i → N (u j) ≤ ub i j) (m : Nat) (hm : m ≤ n) : N (KK u i m) ≤ KB i m := by
  induction m with
  | zero => rw [KK, KB, N_one2]; exact Rat.le_refl
  | succ m ih =>
    have ih := ih (by omega)
    rw [KK, KB]
    by_cases h : m = i
    · rw [if_pos h, if_pos h]; exact ih
    · rw [if_neg h, if_neg h]
      exact Rat.le_trans (N_mul _ _) (mul_le (hu m (by omega) h) ih (N_nonneg _) (ub_nn i m))
theorem WW_le (hu : ∀ j, j < n → j ≠ i → N (u j) ≤ ub i j) (m : Nat) (hm : m ≤ n) : N (WW u i m) ≤ WB i m := by
  induction m with
  | zero => rw [WW, WB, N_zero2]; exact Rat.le_refl
  | succ m ih =>
    have ih := ih (by omega)
    rw [WW, WB]
    by_cases h : m = i
    · rw [if_pos h, if_pos h]; exact ih
    · rw [if_neg h, if_neg h]
      have a := N_add (u m) (WW u i m)
      have b := hu m (by omega) h
      grind
theorem EE_le (hu : ∀ j, j < n → j ≠ i → N (u j) ≤ ub i j) (m : Nat) (hm : m ≤ n) : N (EE u i m) ≤ EB i m := by
  induction m with
  | zero => rw [EE, EB, N_zero2]; exact Rat.le_refl
  | succ m ih =>
    have ih := ih (by omega)
    rw [EE, EB]
    by_cases h : m = i
    · rw [if_pos h, if_pos h]; exact ih
    · rw [if_neg h, if_neg h]
      have a := N_add (EE u i m) (u m * WW u i m)
      have b := Rat.le_trans (N_mul (u m) (WW u i m)) (mul_le (hu m (by omega) h) (WW_le hu m (by omega)) (N_nonneg _) (ub_nn i m))
      grind
theorem CC_le (hp : ∀ j, j < n → j ≠ i → N (d j) * N (u j) ≤ 2) (m : Nat) (hm : m ≤ n) : N (PP d i m) * N (KK u i m) ≤ CB i m := by
  induction m with
  | zero => rw [PP, KK, CB, N_one2]; decide +kernel
  | succ m ih =>
    have ih := ih (by omega)
    rw [PP, KK, CB]
    by_cases h : m = i
    · rw [if_pos h, if_pos h, if_pos h]; exact ih
    · rw [if_neg h, if_neg h, if_neg h]
      have a := N_mul (d m) (PP d i m)
      have b := N_mul (u m) (KK u i m)
      have c := mul_le a b (N_nonneg _) (Rat.mul_nonneg (N_nonneg _) (N_nonneg _))
      have e := mul_le (hp m (by omega) h) ih (Rat.mul_nonneg (N_nonneg _) (N_nonneg _)) (by decide)
      grind
end
end Go.Proofs.Ytklonahkacikbaa

/- The point beside a drawn root, its distances to the roots, their inverses; the terms of the polynomial. Conditions: up to four roots as they are drawn. -/
namespace Go.Proofs.Ytklonahkacikbaa
open Go
set_option linter.unusedSimpArgs false
set_option linter.unusedVariables false

def inv2 (d : Q2) : Q2 := ⟨d.re * (sqN d)⁻¹, -d.im * (sqN d)⁻¹⟩
theorem inv2_mul {d : Q2} (h : 0 < N d) : inv2 d * d = one2 := by
  have h1 := sqN_pos h
  have h2 : sqN d * (sqN d)⁻¹ = 1 := Rat.mul_inv_cancel _ (by intro h0; rw [h0] at h1; exact absurd h1 (by decide))
  unfold inv2
  unfold sqN at h2 ⊢
  generalize (d.re * d.re + d.im * d.im)⁻¹ = i at *
  refine q2e ?_ ?_ <;> (simp; grind)
def dl : Q2 := ⟨1 / 64, 0⟩
@[simp] theorem re_dl : dl.re = 1 / 64 := rfl
@[simp] theorem im_dl : dl.im = 0 := rfl
def rq (X : Nat → Int × Int) (j : Nat) : Q2 := ⟨((X j).1 : Rat) * p2 (-3), ((X j).2 : Rat) * p2 (-3)⟩
def zq (X : Nat → Int × Int) (i : Nat) : Q2 := ⟨((8 * (X i).1 + 1 : Int) : Rat) * p2 (-6), ((8 * (X i).2 : Int) : Rat) * p2 (-6)⟩
def dq (X : Nat → Int × Int) (i j : Nat) : Q2 := zq X i - rq X j
theorem p2m3 : p2 (-3) = 1 / 8 := by decide +kernel
theorem p2m6 : p2 (-6) = 1 / 64 := by decide +kernel
theorem dq_self (X : Nat → Int × Int) (i : Nat) : dq X i i = dl := by
  unfold dq zq rq
  refine q2e ?_ ?_
  · simp [p2m3, p2m6, Rat.intCast_add, Rat.intCast_mul]; grind
  · simp [p2m3, p2m6, Rat.intCast_add, Rat.intCast_mul]; grind
theorem dq_re (X : Nat → Int × Int) (i j : Nat) : (dq X i j).re = ((8 * ((X i).1 - (X j).1) + 1 : Int) : Rat) * (1 / 64) := by
  unfold dq zq rq
  simp [p2m3, p2m6, Rat.intCast_add, Rat.intCast_mul, Rat.intCast_sub]; grind
theorem dq_far {ls : List C2} {X : Nat → Int × Int} (h : DX ls X) {i j : Nat} (hi : i < ls.length) (hj : j < ls.length) (hij : j ≠ i) : (bL i j : Nat) ≠ 0 ∧ ((bL i j : Nat) : Rat) ≤ 64 * A (dq X i j).re := by
  obtain ⟨a1, a2⟩ := h.x i hi
  obtain ⟨b1, b2⟩ := h.x j hj
  have e : bL i j ≠ 0 ∧ bL i j ≤ (8 * ((X i).1 - (X j).1) + 1).natAbs := by
    unfold bL; split <;> omega
  refine ⟨e.1, ?_⟩
  rw [dq_re, A_intm _ (by decide +kernel)]
  have : ((bL i j : Nat) : Rat) ≤ (((8 * ((X i).1 - (X j).1) + 1).natAbs : Nat) : Rat) := by exact_mod_cast e.2
  grind
/-- The inverses. -/
def uq (X : Nat → Int × Int) (i j : Nat) : Q2 := inv2 (dq X i j)
theorem dq_pos {ls : List C2} {X : Nat → Int × Int} (h : DX ls X) {i j : Nat} (hi : i < ls.length) (hj : j < ls.length) (hij : j ≠ i) : 0 < N (dq X i j) := by
  obtain ⟨a, b⟩ := dq_far h hi hj hij
  have c := re_le_N (dq X i j)
  have hp : (1 : Rat) ≤ (bL i j : Nat) := by exact_mod_cast Nat.pos_of_ne_zero a
  grind
theorem uq_ok {ls : List C2} {X : Nat → Int × Int} (h : DX ls X) {i : Nat} (hi : i < ls.length) {j : Nat} (hj : j < ls.length) (hij : j ≠ i) : uq X i j * dq X i j = one2 ∧ N (uq X i j) ≤ ub i j ∧ N (dq X i j) * N (uq X i j) ≤ 2 := by
  have hp := dq_pos h hi hj hij
  have hm := inv2_mul hp
  obtain ⟨a, b⟩ := inv_norm hm hp
  obtain ⟨c, e⟩ := dq_far h hi hj hij
  refine ⟨hm, ?_, b⟩
  have hL : (0 : Rat) < (bL i j : Nat) := by exact_mod_cast Nat.pos_of_ne_zero c
  refine lcancel_le hL ?_
  rw [ub_mul c]
  have k := Rat.mul_le_mul_of_nonneg_left e (N_nonneg (uq X i j))
  unfold uq at *
  grind
/-- The norm of the roots, in eighths. -/
def nb (j : Nat) : Nat := if j = 0 then 20 else if j = 1 then 12 else if j = 2 then 16 else 24
theorem nb_ok {ls : List C2} {X : Nat → Int × Int} (h : DX ls X) (h4 : ls.length ≤ 4) {j : Nat} (hj : j < ls.length) : nz (X j) ≤ nb j := by
  obtain ⟨a1, a2⟩ := h.x j hj
  obtain ⟨b1, b2⟩ := h.y j hj
  unfold nz nb
  rcases (by omega : j = 0 ∨ j = 1 ∨ j = 2 ∨ j = 3) with rfl | rfl | rfl | rfl <;> (simp; omega)
def bt : Nat → Nat → Nat
  | 0, k => if k = 0 then 1 else 0
  | m + 1, k => (if k = 0 then 0 else bt m (k - 1)) + nb m * bt m k
theorem cz_bt {X : Nat → Int × Int} {n : Nat} (hX : ∀ j, j < n → nz (X j) ≤ nb j) (m k : Nat) (hm : m ≤ n) : nz (cz X m k) ≤ bt m k := by
  induction m generalizing k with
  | zero => unfold cz bt; split <;> decide
  | succ m ih =>
    unfold cz bt
    refine Nat.le_trans (nz_sub _ _) (Nat.add_le_add ?_ (Nat.le_trans (nz_mul _ _) (Nat.mul_le_mul (hX m (by omega)) (ih _ (by omega)))))
    split
    · decide
    · exact ih _ (by omega)
/-- The terms, as rational numbers. -/
def cq (X : Nat → Int × Int) (m k : Nat) : Q2 := ⟨((cz X m k).1 : Rat) * p2 (3 * ((k : Int) - (m : Int))), ((cz X m k).2 : Rat) * p2 (3 * ((k : Int) - (m : Int)))⟩
theorem cq_low (X : Nat → Int × Int) (m : Nat) : cq X (m + 1) 0 = zero2 - rq X m * cq X m 0 := by
  unfold cq rq
  rw [cz, if_pos rfl]
  have e : p2 (3 * (((0 : Nat) : Int) - ((m + 1 : Nat) : Int))) = p2 (-3) * p2 (3 * (((0 : Nat) : Int) - (m : Int))) := by rw [← p2_add]; congr 1; omega
  rw [e]
  refine q2e ?_ ?_ <;> (simp [zs, zm, Rat.intCast_sub, Rat.intCast_mul, Rat.intCast_add, Rat.intCast_neg]; grind)
theorem cq_up (X : Nat → Int × Int) (m k : Nat) : cq X (m + 1) (k + 1) = cq X m k - rq X m * cq X m (k + 1) := by
  unfold cq rq
  rw [cz, if_neg (by omega), Nat.add_sub_cancel]
  have e1 : p2 (3 * (((k + 1 : Nat) : Int) - ((m + 1 : Nat) : Int))) = p2 (3 * ((k : Int) - (m : Int))) := by congr 1; omega
  have e2 : p2 (3 * ((k : Int) - (m : Int))) = p2 (-3) * p2 (3 * (((k + 1 : Nat) : Int) - (m : Int))) := by rw [← p2_add]; congr 1; omega
  rw [e1, e2]
  refine q2e ?_ ?_ <;> (simp [zs, zm, Rat.intCast_sub, Rat.intCast_mul, Rat.intCast_add]; grind)
theorem cq_top (X : Nat → Int × Int) (m : Nat) : cq X m m = one2 := by
  unfold cq
  rw [cz_top]
  have : p2 (3 * ((m : Int) - (m : Int))) = 1 := by rw [show 3 * ((m : Int) - (m : Int)) = 0 by omega]; exact p2_zero
  rw [this]
  refine q2e ?_ ?_ <;> (simp; try decide +kernel)
end Go.Proofs.Ytklonahkacikbaa

/- The values at the point beside a root, exactly: products of distances. Conditions: up to four roots. -/
namespace Go.Proofs.Ytklonahkacikbaa
open Go
set_option linter.unusedSimpArgs false
set_option linter.unusedVariables false

theorem cq_same (X : Nat → Int × Int) (m : Nat) : cq X (m + 1) (m + 1) = cq X m m := (cq_top X (m + 1)).trans (cq_top X m).symm
section
variable (X : Nat → Int × Int) (i : Nat)
theorem lev1 : v1 (cq X 1 0) (cq X 1 1) (zq X i) = (VV (dq X i) 1).1 ∧ cq X 1 1 = (VV (dq X i) 1).2.1 ∧ zero2 = (VV (dq X i) 1).2.2 := by
  have e0 : cq X 0 0 = one2 := cq_top X 0
  have e1 : cq X 1 1 = one2 := cq_top X 1
  have e2 := cq_low X 0
  rw [e0] at e2
  rw [e1, e2]
  refine ⟨q2e ?_ ?_, q2e ?_ ?_, q2e ?_ ?_⟩ <;> (simp [VV, v1, dq]; try grind)
theorem lev2 : v2 (cq X 2 0) (cq X 2 1) (cq X 2 2) (zq X i) = (VV (dq X i) 2).1 ∧ v1 (cq X 2 1) (sc 2 (cq X 2 2)) (zq X i) = (VV (dq X i) 2).2.1 ∧ sc 2 (cq X 2 2) = (VV (dq X i) 2).2.2 := by
  obtain ⟨a, b, c⟩ := lev1 X i
  obtain ⟨u, v, w⟩ := up1 (cq X 1 0) (cq X 1 1) (zq X i) (rq X 1)
  rw [cq_low, cq_up X 1 0, cq_same X 1]
  refine ⟨?_, ?_, ?_⟩
  · rw [u, a]; rfl
  · rw [v, a]; conv => lhs; rw [b]
    rfl
  · rw [w]; conv => lhs; rw [b, c]
    rfl
theorem lev3 : v3 (cq X 3 0) (cq X 3 1) (cq X 3 2) (cq X 3 3) (zq X i) = (VV (dq X i) 3).1 ∧ v2 (cq X 3 1) (sc 2 (cq X 3 2)) (sc 3 (cq X 3 3)) (zq X i) = (VV (dq X i) 3).2.1 ∧
    v1 (sc 2 (cq X 3 2)) (sc 6 (cq X 3 3)) (zq X i) = (VV (dq X i) 3).2.2 := by
  obtain ⟨a, b, c⟩ := lev2 X i
  obtain ⟨u, v, w⟩ := up2 (cq X 2 0) (cq X 2 1) (cq X 2 2) (zq X i) (rq X 2)
  rw [cq_low, cq_up X 2 0, cq_up X 2 1, cq_same X 2]
  exact ⟨by rw [u, a]; rfl, by rw [v, a, b]; rfl, by rw [w, b, c]; rfl⟩
theorem lev4 : v4 (cq X 4 0) (cq X 4 1) (cq X 4 2) (cq X 4 3) (cq X 4 4) (zq X i) = (VV (dq X i) 4).1 ∧ v3 (cq X 4 1) (sc 2 (cq X 4 2)) (sc 3 (cq X 4 3)) (sc 4 (cq X 4 4)) (zq X i) = (VV (dq X i) 4).2.1 ∧
    v2 (sc 2 (cq X 4 2)) (sc 6 (cq X 4 3)) (sc 12 (cq X 4 4)) (zq X i) = (VV (dq X i) 4).2.2 := by
  obtain ⟨a, b, c⟩ := lev3 X i
  obtain ⟨u, v, w⟩ := up3 (cq X 3 0) (cq X 3 1) (cq X 3 2) (cq X 3 3) (zq X i) (rq X 3)
  rw [cq_low, cq_up X 3 0, cq_up X 3 1, cq_up X 3 2, cq_same X 3]
  exact ⟨by rw [u, a]; rfl, by rw [v, a, b]; rfl, by rw [w, b, c]; rfl⟩
end
end Go.Proofs.Ytklonahkacikbaa
