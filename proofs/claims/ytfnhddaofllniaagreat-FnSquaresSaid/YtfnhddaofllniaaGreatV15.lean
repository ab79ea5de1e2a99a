/- Laguerre's step from beside a drawn root: the number whose root is taken. Conditions: the three values are near those of a simple root. -/
import Derived.Test.YtfnhddaofllniaaGreatV14
namespace Go.Proofs.YtfnhddaofllniaaGreat
open Go
set_option linter.unusedSimpArgs false
set_option linter.unusedVariables false

section
variable {n : Nat} {v s t K P m g h : Q2}
theorem NN.lagA (H : NN n v s t K P m g h) {a : Q2} (ha : a * v = s) : N (sc (1 / 64) a) ≤ 6 / 5 ∧ N (sc (1 / 64) a - one2) ≤ 39 / 200 ∧ sc (1 / 64) a * (one2 + m) = one2 + g := by
  have e : sc (1 / 64) a * (one2 + m) = one2 + g := by
    rw [← H.s, ← ha, mul_assoc2, H.v]
    exact q2e (by simp; grind) (by simp; grind)
  have hm := H.m; have hg := H.ng
  have k1 := div_bound e
  have x1 := (N_one_add g).1
  have e2 : (sc (1 / 64) a - one2) * (one2 + m) = g - m := by
    have : (sc (1 / 64) a - one2) * (one2 + m) = sc (1 / 64) a * (one2 + m) - (one2 + m) := q2e (by simp; grind) (by simp; grind)
    rw [this, e]
    exact q2e (by simp; grind) (by simp; grind)
  have k2 := div_bound e2
  have x2 := N_sub g m
  have f1 := Rat.mul_le_mul_of_nonneg_left (show 183 / 200 ≤ 1 - N m by grind) (N_nonneg (sc (1 / 64) a))
  have f2 := Rat.mul_le_mul_of_nonneg_left (show 183 / 200 ≤ 1 - N m by grind) (N_nonneg (sc (1 / 64) a - one2))
  exact ⟨by grind, by grind, e⟩
theorem NN.lagC (H : NN n v s t K P m g h) {c : Q2} (hc : c * v = t) : N (sc (1 / 4096) c) ≤ 21 / 100 ∧ sc (1 / 4096) c * (one2 + m) = h := by
  have e : sc (1 / 4096) c * (one2 + m) = h := by
    have x : c * (v * K) = t * K := by rw [← mul_assoc2, hc]
    rw [H.v, H.t] at x
    have : sc (1 / 4096) c * (one2 + m) = sc (1 / 64) (c * (dl * (one2 + m))) := q2e (by simp; grind) (by simp; grind)
    rw [this, x]
    exact q2e (by simp; grind) (by simp; grind)
  have hm := H.m; have hh := H.nh
  have k1 := div_bound e
  have f1 := Rat.mul_le_mul_of_nonneg_left (show 183 / 200 ≤ 1 - N m by grind) (N_nonneg (sc (1 / 4096) c))
  exact ⟨by grind, e⟩
theorem NN.lagY (H : NN n v s t K P m g h) {a c : Q2} (ha : a * (one2 + m) = one2 + g) (hc : c * (one2 + m) = h) (hn : 2 ≤ n) : N ((sc (n : Rat) (a * a - c) - a * a) - sc ((n : Rat) - 1) one2) ≤ 377 / 1000 * ((n : Rat) - 1) := by
  have hgh := H.gh hn
  have hm := H.m; have hg := H.ng; have hh := H.nh
  have hr : (2 : Rat) ≤ (n : Rat) := by exact_mod_cast hn
  generalize (n : Rat) = r at *
  have e : ((sc r (a * a - c) - a * a) - sc (r - 1) one2) * (one2 + (m + m + m * m)) = ((sc (2 * (r - 1)) g - sc r h) + sc (r - 1) (g * g)) - sc r (m * h) - sc (r - 1) (m + m + m * m) := by
    have e1 : ((sc r (a * a - c) - a * a) - sc (r - 1) one2) * (one2 + (m + m + m * m)) = sc r ((a * (one2 + m)) * (a * (one2 + m)) - (one2 + m) * (c * (one2 + m))) - (a * (one2 + m)) * (a * (one2 + m)) - sc (r - 1) ((one2 + m) * (one2 + m)) := q2e (by simp; grind) (by simp; grind)
    rw [e1, ha, hc]
    exact q2e (by simp; grind) (by simp; grind)
  have k := div_bound e
  have x1 := N_sub (((sc (2 * (r - 1)) g - sc r h) + sc (r - 1) (g * g)) - sc r (m * h)) (sc (r - 1) (m + m + m * m))
  have x2 := N_sub ((sc (2 * (r - 1)) g - sc r h) + sc (r - 1) (g * g)) (sc r (m * h))
  have x3 := N_add (sc (2 * (r - 1)) g - sc r h) (sc (r - 1) (g * g))
  rw [N_scp (show 0 ≤ r - 1 by grind)] at x1 x3
  rw [N_scp (show 0 ≤ r by grind)] at x2
  have x4 := Rat.le_trans (N_mul g g) (mul_le hg hg (N_nonneg _) (by decide +kernel))
  have x5 := Rat.le_trans (N_mul m h) (mul_le hm hh (N_nonneg _) (by decide +kernel))
  have x6 := Rat.le_trans (N_mul m m) (mul_le hm hm (N_nonneg _) (by decide +kernel))
  have x7 := N_add (m + m) (m * m)
  have x8 := N_add m m
  have y1 := Rat.mul_le_mul_of_nonneg_left x4 (show 0 ≤ r - 1 by grind)
  have y2 := Rat.mul_le_mul_of_nonneg_left x5 (show 0 ≤ r by grind)
  have y3 := Rat.mul_le_mul_of_nonneg_left (show N (m + m + m * m) ≤ 17 / 100 + 17 / 200 * (17 / 200) by grind) (show 0 ≤ r - 1 by grind)
  have y4 := Rat.mul_le_mul_of_nonneg_left (show 1 - (17 / 100 + 17 / 200 * (17 / 200)) ≤ 1 - N (m + m + m * m) by grind) (N_nonneg ((sc r (a * a - c) - a * a) - sc (r - 1) one2))
  grind
end

/-- A computed number near some times another one. -/
def Ap (w : C2) (k : Rat) (q : Q2) (E : Rat) : Prop := fC w ∧ N (cv w - sc k q) ≤ k * E
theorem Ap.mono {w : C2} {k : Rat} {q : Q2} {E F : Rat} (h : Ap w k q E) (hk : 0 ≤ k) (hEF : E ≤ F) : Ap w k q F := ⟨h.1, Rat.le_trans h.2 (Rat.mul_le_mul_of_nonneg_left hEF hk)⟩
theorem Ap.le {w : C2} {k : Rat} {q : Q2} {E b : Rat} (h : Ap w k q E) (hk : 0 ≤ k) (hb : N q ≤ b) : N (cv w) ≤ k * (b + E) := by
  have a := N_tri (cv w) (sc k q)
  have c := h.2
  rw [N_scp hk] at a
  have d := Rat.mul_le_mul_of_nonneg_left hb hk
  grind
theorem near_ap {r : C2} {x : Q2} {B : Rat} (h : Near r x) (hB : N x ≤ B) : N (cv r - x) ≤ 1 / 1000000 * B + 1 / 1000000 :=
  Rat.le_trans h.2 (add_le (mul_le (show u1 ≤ 1 / 1000000 by decide +kernel) hB (N_nonneg _) (by decide +kernel)) (by decide +kernel))
theorem big30 {x : Rat} {b : Int} (h : x ≤ 1073741824) (hb : 30 < b) : x < p2 b := lt_of_p2 (a := 30) (Rat.le_trans h (by decide +kernel)) hb
theorem Ap.sub {x y : C2} {k : Rat} {p q : Q2} {E F b c G : Rat} (hx : Ap x k p E) (hy : Ap y k q F) (hk : 1 ≤ k) (hp : N p ≤ b) (hq : N q ≤ c) (hbig : k * (b + E + (c + F)) ≤ 1073741824) (hG : E + F + 1 / 1000000 * (b + E + (c + F)) + 1 / 1000000 ≤ G) : Ap (subC x y) k (p - q) G := by
  have a1 := hx.le (by grind) hp
  have a2 := hy.le (by grind) hq
  have a3 := N_sub (cv x) (cv y)
  have a4 : N (cv x - cv y) ≤ k * (b + E + (c + F)) := by grind
  have hn := subC_near hx.1 hy.1 (big30 (Rat.le_trans a4 hbig) (by decide))
  refine ⟨hn.1, ?_⟩
  have b1 := near_ap hn a4
  have e : cv (subC x y) - sc k (p - q) = (cv (subC x y) - (cv x - cv y)) + ((cv x - sc k p) - (cv y - sc k q)) := q2e (by simp; grind) (by simp; grind)
  rw [e]
  have b2 := N_add (cv (subC x y) - (cv x - cv y)) ((cv x - sc k p) - (cv y - sc k q))
  have b3 := N_sub (cv x - sc k p) (cv y - sc k q)
  have b4 := hx.2
  have b5 := hy.2
  have b6 := Rat.mul_le_mul_of_nonneg_left hG (show 0 ≤ k by grind)
  clear hn
  grind
theorem Ap.add {x y : C2} {k : Rat} {p q : Q2} {E F b c G : Rat} (hx : Ap x k p E) (hy : Ap y k q F) (hk : 1 ≤ k) (hp : N p ≤ b) (hq : N q ≤ c) (hbig : k * (b + E + (c + F)) ≤ 1073741824) (hG : E + F + 1 / 1000000 * (b + E + (c + F)) + 1 / 1000000 ≤ G) : Ap (addC x y) k (p + q) G := by
  have a1 := hx.le (by grind) hp
  have a2 := hy.le (by grind) hq
  have a3 := N_add (cv x) (cv y)
  have a4 : N (cv x + cv y) ≤ k * (b + E + (c + F)) := by grind
  have hn := addC_near hx.1 hy.1 (big30 (Rat.le_trans a4 hbig) (by decide))
  refine ⟨hn.1, ?_⟩
  have b1 := near_ap hn a4
  have e : cv (addC x y) - sc k (p + q) = (cv (addC x y) - (cv x + cv y)) + ((cv x - sc k p) + (cv y - sc k q)) := q2e (by simp; grind) (by simp; grind)
  rw [e]
  have b2 := N_add (cv (addC x y) - (cv x + cv y)) ((cv x - sc k p) + (cv y - sc k q))
  have b3 := N_add (cv x - sc k p) (cv y - sc k q)
  have b4 := hx.2
  have b5 := hy.2
  have b6 := Rat.mul_le_mul_of_nonneg_left hG (show 0 ≤ k by grind)
  clear hn
  grind
theorem Ap.sq {x : C2} {k : Rat} {p : Q2} {E b G : Rat} (hx : Ap x k p E) (hk : 1 ≤ k) (hp : N p ≤ b) (hE : 0 ≤ E) (hbig : k * k * ((b + E) * (b + E)) ≤ 1073741824) (hb1 : k * (b + E) ≤ 1073741824)
    (hG : 2 * (b * E) + E * E + 1 / 1000000 * ((b + E) * (b + E)) + 1 / 1000000 ≤ G) : fit2 (timesF x x) ∧ Ap (mulC x x) (k * k) (p * p) G := by
  have k0 : 0 ≤ k := by grind
  have b0 : 0 ≤ b := by have := N_nonneg p; grind
  have a1 := hx.le k0 hp
  have a2 := mul_le a1 a1 (N_nonneg _) (Rat.mul_nonneg k0 (by grind))
  have a3 : N (cv x * cv x) ≤ k * k * ((b + E) * (b + E)) := by have := N_mul (cv x) (cv x); grind
  obtain ⟨f, hn⟩ := mulC_near hx.1 hx.1 (big30 (Rat.le_trans a1 hb1) (by decide)) (big30 (Rat.le_trans a1 hb1) (by decide)) (big30 (Rat.le_trans a3 hbig) (by decide))
  refine ⟨f, hn.1, ?_⟩
  have b1 := near_ap hn a3
  have kk : 1 ≤ k * k := by have := mul_le hk hk (by decide) k0; grind
  have e : cv (mulC x x) - sc (k * k) (p * p) = (cv (mulC x x) - cv x * cv x) + ((cv x - sc k p) * (cv x - sc k p) + sc 2 (sc k p * (cv x - sc k p))) := q2e (by simp; grind) (by simp; grind)
  rw [e]
  have b2 := N_add (cv (mulC x x) - cv x * cv x) ((cv x - sc k p) * (cv x - sc k p) + sc 2 (sc k p * (cv x - sc k p)))
  have b3 := N_add ((cv x - sc k p) * (cv x - sc k p)) (sc 2 (sc k p * (cv x - sc k p)))
  rw [N_scp (by decide)] at b3
  have b4 := hx.2
  have kE : 0 ≤ k * E := Rat.mul_nonneg k0 hE
  have b5 := Rat.le_trans (N_mul (cv x - sc k p) (cv x - sc k p)) (mul_le b4 b4 (N_nonneg _) kE)
  have b6 : N (sc k p) ≤ k * b := by rw [N_scp k0]; exact Rat.mul_le_mul_of_nonneg_left hp k0
  have b7 := Rat.le_trans (N_mul (sc k p) (cv x - sc k p)) (mul_le b6 b4 (N_nonneg _) (Rat.mul_nonneg k0 b0))
  have b8 := Rat.mul_le_mul_of_nonneg_left hG (show 0 ≤ k * k by grind)
  clear hn
  grind
theorem scale_near {x : C2} {c : Nat} (hx : fC x) (hk : fN .f32 (kf c) = true ∧ vN .f32 (kf c) = (c : Rat)) (hb : N (sc (c : Rat) (cv x)) < p2 127) : Near (scaleC x (kf c)) (sc (c : Rat) (cv x)) := by
  have a1 : A ((c : Rat) * vN .f32 x.1) ≤ N (sc (c : Rat) (cv x)) := re_le_N (sc (c : Rat) (cv x))
  have a2 : A ((c : Rat) * vN .f32 x.2) ≤ N (sc (c : Rat) (cv x)) := im_le_N (sc (c : Rat) (cv x))
  have e1' : vN .f32 x.1 * vN .f32 (kf c) = (c : Rat) * vN .f32 x.1 := by rw [hk.2]; grind
  have e2' : vN .f32 x.2 * vN .f32 (kf c) = (c : Rat) * vN .f32 x.2 := by rw [hk.2]; grind
  have R1 := fop_mul_res (k := .f32) hx.1 hk.1 (by rw [e1']; show _ < p2 127; grind)
  have R2 := fop_mul_res (k := .f32) hx.2 hk.1 (by rw [e2']; show _ < p2 127; grind)
  rw [e1'] at R1
  rw [e2'] at R2
  exact near_mk (near1_res R1) (near1_res R2)
theorem Ap.scale {x : C2} {k : Rat} {p : Q2} {E b G : Rat} {c : Nat} (hx : Ap x k p E) (hc : fN .f32 (kf c) = true ∧ vN .f32 (kf c) = (c : Rat)) (hk : 1 ≤ k) (hp : N p ≤ b) (hbig : (c : Rat) * (k * (b + E)) ≤ 1073741824)
    (hG : (c : Rat) * E + 1 / 1000000 * ((c : Rat) * (b + E)) + 1 / 1000000 ≤ G) : Ap (scaleC x (kf c)) k (sc (c : Rat) p) G := by
  have c0 : (0 : Rat) ≤ (c : Rat) := by exact_mod_cast Nat.zero_le c
  have a1 := hx.le (by grind) hp
  have a2 : N (sc (c : Rat) (cv x)) ≤ (c : Rat) * (k * (b + E)) := by rw [N_scp c0]; exact Rat.mul_le_mul_of_nonneg_left a1 c0
  have hn := scale_near hx.1 hc (big30 (Rat.le_trans a2 hbig) (by decide))
  refine ⟨hn.1, ?_⟩
  have b1 := near_ap hn a2
  have e : cv (scaleC x (kf c)) - sc k (sc (c : Rat) p) = (cv (scaleC x (kf c)) - sc (c : Rat) (cv x)) + sc (c : Rat) (cv x - sc k p) := q2e (by simp; grind) (by simp; grind)
  rw [e]
  have b2 := N_add (cv (scaleC x (kf c)) - sc (c : Rat) (cv x)) (sc (c : Rat) (cv x - sc k p))
  rw [N_scp c0] at b2
  have b4 := Rat.mul_le_mul_of_nonneg_left hx.2 c0
  have b6 := Rat.mul_le_mul_of_nonneg_left hG (show 0 ≤ k by grind)
  clear hn
  grind
end Go.Proofs.YtfnhddaofllniaaGreat

/- Laguerre's step on words: the number whose root is taken. Conditions: the three values are near those of a simple root. -/
namespace Go.Proofs.YtfnhddaofllniaaGreat
open Go
set_option linter.unusedSimpArgs false
set_option linter.unusedVariables false

def lagA (v s : C2) : C2 := quoC s v
def lagC (v t : C2) : C2 := quoC t v
def lagS (v s : C2) : C2 := mulC (lagA v s) (lagA v s)
def lagX (n : Nat) (v s t : C2) : C2 := scaleC (subC (scaleC (subC (lagS v s) (lagC v t)) (kf n)) (lagS v s)) (kf (n - 1))
theorem kf0 : fN .f32 (kf 0) = true ∧ vN .f32 (kf 0) = 0 := kf_val (m := 0) (e := -149) (by decide +kernel) (by decide +kernel)
theorem kf_ok {c : Nat} (hc : c ≤ 4) : fN .f32 (kf c) = true ∧ vN .f32 (kf c) = (c : Rat) := by
  rcases (by omega : c = 0 ∨ c = 1 ∨ c = 2 ∨ c = 3 ∨ c = 4) with rfl | rfl | rfl | rfl | rfl
  · exact kf0
  · exact kf1
  · exact kf2
  · exact kf3
  · exact kf4
theorem kf_pred {n : Nat} (h1 : 1 ≤ n) (h4 : n ≤ 4) : fop .sub .f32 (kf n) (nrm .f32 1065353216) = kf (n - 1) := by
  rcases (by omega : n = 1 ∨ n = 2 ∨ n = 3 ∨ n = 4) with rfl | rfl | rfl | rfl <;> decide +kernel
theorem zero_scale {y : C2} (z : fC y) : cv (scaleC y (kf 0)) = zero2 := by
  have e1' : ∀ {y : Nat}, fN .f32 y = true → vN .f32 (fop .mul .f32 y (kf 0)) = 0 := by
    intro y hy
    have e : vN .f32 y * vN .f32 (kf 0) = 0 := by rw [kf0.2]; grind
    have R := fop_mul_res (k := .f32) hy kf0.1 (by rw [e, A_zero]; exact p2_pos _)
    rw [e] at R
    exact R.2.2 0 0 (by rw [A_zero, show ((0 : Nat) : Rat) = 0 from rfl]; grind) (by decide) (by decide)
  exact q2e (e1' z.1) (e1' z.2)
/-- What is known on the way. -/
structure LagX (n : Nat) (v s t a' : Q2) (vw sw tw : C2) : Prop where
  f1 : quoFit sw vw
  f2 : quoFit tw vw
  f3 : fit2 (timesF (lagA vw sw) (lagA vw sw))
  a : Ap (lagA vw sw) 64 a' (2 / 1000000)
  a1 : N (a' - one2) ≤ 39 / 200
  c : fC (lagC vw tw)
  x : fC (lagX n vw sw tw)
  x0 : n = 1 → cv (lagX n vw sw tw) = zero2
  x2 : 2 ≤ n → N (cv (lagX n vw sw tw) - sc (4096 * (((n : Rat) - 1) * ((n : Rat) - 1))) one2) ≤ 4096 * (((n : Rat) - 1) * ((n : Rat) - 1)) * (19 / 50)
theorem lagX_ok {n : Nat} {vw sw tw : C2} {K P m g h : Q2} (H : NN n (cv vw) (cv sw) (cv tw) K P m g h) (fv : fC vw) (fs : fC sw) (ft : fC tw) (h1 : 1 ≤ n) (h4 : n ≤ 4) : ∃ a', LagX n (cv vw) (cv sw) (cv tw) a' vw sw tw := by
  obtain ⟨b1, b2, b3, b4, b5, _, _, _⟩ := H.bounds
  have hv0 : 0 < N (cv vw) := pos_of (show (0 : Rat) < 1 / 512 by decide +kernel) b4
  obtain ⟨a0, ha⟩ := quo_ex (cv sw) hv0
  obtain ⟨c0, hc⟩ := quo_ex (cv tw) hv0
  obtain ⟨a1, a2, a3⟩ := H.lagA ha
  obtain ⟨c1, c2⟩ := H.lagC hc
  have na : N a0 ≤ 64 * (6 / 5) := by
    have e : a0 = sc 64 (sc (1 / 64) a0) := q2e (by simp; grind) (by simp; grind)
    rw [e, N_scp (by decide)]; grind
  have nc : N c0 ≤ 4096 * (21 / 100) := by
    have e : c0 = sc 4096 (sc (1 / 4096) c0) := q2e (by simp; grind) (by simp; grind)
    rw [e, N_scp (by decide)]; grind
  have l9 : N (cv vw) < p2 100 := lt_of_p2 (a := 4) (Rat.le_trans b1 (by decide +kernel)) (by decide)
  obtain ⟨q1, r1⟩ := quoC_near fs fv ha (lt_of_p2 (a := 10) (Rat.le_trans b2 (by decide +kernel)) (by decide)) l9 (Rat.le_trans (by decide +kernel) b4) (lt_of_p2 (a := 10) (Rat.le_trans na (by decide +kernel)) (by decide))
  obtain ⟨q2, r2⟩ := quoC_near ft fv hc (lt_of_p2 (a := 13) (Rat.le_trans b3 (by decide +kernel)) (by decide)) l9 (Rat.le_trans (by decide +kernel) b4) (lt_of_p2 (a := 10) (Rat.le_trans nc (by decide +kernel)) (by decide))
  have A1 : Ap (lagA vw sw) 64 (sc (1 / 64) a0) (2 / 1000000) := by
    refine ⟨r1.1, ?_⟩
    have e : sc 64 (sc (1 / 64) a0) = a0 := q2e (by simp; grind) (by simp; grind)
    rw [e]
    exact Rat.le_trans (near_ap r1 na) (by decide +kernel)
  have C1 : Ap (lagC vw tw) 4096 (sc (1 / 4096) c0) (1 / 1000000) := by
    refine ⟨r2.1, ?_⟩
    have e : sc 4096 (sc (1 / 4096) c0) = c0 := q2e (by simp; grind) (by simp; grind)
    rw [e]
    exact Rat.le_trans (near_ap r2 nc) (by decide +kernel)
  have Y := H.lagY a3 c2
  generalize sc (1 / 64) a0 = a at *
  generalize sc (1 / 4096) c0 = c at *
  obtain ⟨f3, S1⟩ := A1.sq (G := 8 / 1000000) (by decide +kernel) a1 (by decide +kernel) (by decide +kernel) (by decide +kernel) (by decide +kernel)
  have S2 : Ap (lagS vw sw) 4096 (a * a) (8 / 1000000) := by
    have : (64 : Rat) * 64 = 4096 := by decide +kernel
    rw [this] at S1; exact S1
  have naa : N (a * a) ≤ 36 / 25 := Rat.le_trans (N_mul a a) (Rat.le_trans (mul_le a1 a1 (N_nonneg _) (by decide +kernel)) (by decide +kernel))
  have D1 := S2.sub C1 (G := 13 / 1000000) (by decide +kernel) naa c1 (by decide +kernel) (by decide +kernel)
  have nd1 : N (a * a - c) ≤ 33 / 20 := by have := N_sub (a * a) c; grind
  have hr1 : (1 : Rat) ≤ (n : Rat) := by exact_mod_cast h1
  have hr4 : (n : Rat) ≤ 4 := by exact_mod_cast h4
  have D2 := D1.scale (G := 60 / 1000000) (kf_ok h4) (by decide +kernel) nd1 (by grind) (by grind)
  have nd2 : N (sc (n : Rat) (a * a - c)) ≤ 33 / 5 := by
    rw [N_scp (by grind)]
    have := mul_le hr4 nd1 (N_nonneg _) (by decide)
    grind
  have D3 := D2.sub S2 (G := 80 / 1000000) (by decide +kernel) nd2 naa (by decide +kernel) (by decide +kernel)
  have nd3 : N (sc (n : Rat) (a * a - c) - a * a) ≤ 9 := by have := N_sub (sc (n : Rat) (a * a - c)) (a * a); grind
  have hp1 : ((n - 1 : Nat) : Rat) = (n : Rat) - 1 := by
    have : ((n - 1 : Nat) : Rat) + 1 = (n : Rat) := by rw [← show ((n - 1 + 1 : Nat) : Rat) = ((n - 1 : Nat) : Rat) + 1 from Rat.natCast_add _ _]; congr 1; omega
    grind
  have D4 := D3.scale (G := 300 / 1000000) (kf_ok (show n - 1 ≤ 4 by omega)) (by decide +kernel) nd3 (by rw [hp1]; grind) (by rw [hp1]; grind)
  rw [hp1] at D4
  refine ⟨a, q1, q2, f3, A1, a2, C1.1, D4.1, ?_, ?_⟩
  · rintro rfl
    have z := D3.1
    unfold lagX
    rw [show 1 - 1 = 0 from rfl]
    generalize subC (scaleC (subC (lagS vw sw) (lagC vw tw)) (kf 1)) (lagS vw sw) = y at *
    exact zero_scale z
  · intro hn
    have Y := Y hn
    have hr2 : (2 : Rat) ≤ (n : Rat) := by exact_mod_cast hn
    have d := D4.2
    show N (cv (scaleC (subC (scaleC (subC (lagS vw sw) (lagC vw tw)) (kf n)) (lagS vw sw)) (kf (n - 1))) - _) ≤ _
    generalize cv (scaleC (subC (scaleC (subC (lagS vw sw) (lagC vw tw)) (kf n)) (lagS vw sw)) (kf (n - 1))) = w at *
    generalize (sc (n : Rat) (a * a - c) - a * a) = y at *
    generalize (n : Rat) = r at *
    have e : w - sc (4096 * ((r - 1) * (r - 1))) one2 = (w - sc 4096 (sc (r - 1) y)) + sc (4096 * (r - 1)) (y - sc (r - 1) one2) := q2e (by simp; grind) (by simp; grind)
    have k := N_add (w - sc 4096 (sc (r - 1) y)) (sc (4096 * (r - 1)) (y - sc (r - 1) one2))
    rw [← e, N_scp (by grind)] at k
    have k2 := Rat.mul_le_mul_of_nonneg_left Y (show 0 ≤ 4096 * (r - 1) by grind)
    have k3 : 1 ≤ (r - 1) * (r - 1) := by have := mul_le (show (1 : Rat) ≤ r - 1 by grind) (show (1 : Rat) ≤ r - 1 by grind) (by decide) (by grind); grind
    grind
end Go.Proofs.YtfnhddaofllniaaGreat

/- Laguerre's step on words: the new point. Conditions: the phase is near 1. -/
namespace Go.Proofs.YtfnhddaofllniaaGreat
open Go
set_option linter.unusedSimpArgs false
set_option linter.unusedVariables false

def lagRho (n : Nat) (v s t : C2) : Nat := nw (sqF (wd (longF (lagX n v s t))))
def lagR (n : Nat) (v s t ph : C2) : C2 := scaleC ph (lagRho n v s t)
def lagG (n : Nat) (v s t ph : C2) : C2 := addC (lagA v s) (lagR n v s t ph)
def lagH (n : Nat) (v s t ph : C2) : C2 := subC (lagA v s) (lagR n v s t ph)
def lagQ (n : Nat) (v s t ph : C2) : C2 := quoC (kf n, 0) (lagG n v s t ph)
/-- A phase near 1. -/
structure PhOk (ph : C2) : Prop where
  f : fC ph
  lo : 4 / 5 ≤ (cv ph).re
  hi : (cv ph).re ≤ 8 / 5
  im : A (cv ph).im ≤ 1 / 5
theorem sqN_mul (x y : Q2) : sqN (x * y) = sqN x * sqN y := by unfold sqN; simp; grind
theorem sqN_add (x e : Q2) : sqN (x + e) ≤ sqN x + 2 * (N x * N e) + N e * N e := by
  have h1 := le_A (x.re * e.re)
  have h2 := le_A (x.im * e.im)
  rw [A_mul] at h1 h2
  have a1 := A_nonneg x.re; have a2 := A_nonneg x.im; have a3 := A_nonneg e.re; have a4 := A_nonneg e.im
  have b1 := Rat.mul_nonneg a1 a4
  have b2 := Rat.mul_nonneg a2 a3
  have b3 := Rat.mul_nonneg a3 a4
  have c1 := sq_A e.re
  have c2 := sq_A e.im
  unfold sqN N
  simp only [re_add, im_add]
  have e1 : (x.re + e.re) * (x.re + e.re) + (x.im + e.im) * (x.im + e.im) = x.re * x.re + x.im * x.im + 2 * (x.re * e.re + x.im * e.im) + (e.re * e.re + e.im * e.im) := by grind
  rw [e1, c1, c2]
  grind
/-- The root that is taken. -/
theorem rho_ok {n : Nat} {v s t a' : Q2} {vw sw tw ph : C2} (L : LagX n v s t a' vw sw tw) (P : PhOk ph) (h1 : 1 ≤ n) (h4 : n ≤ 4) :
    fit1 (sqF (powerF (lagX n vw sw tw))) ∧ fit1 (sqF (wd (longF (lagX n vw sw tw)))) ∧ fC (lagR n vw sw tw ph) ∧
    64 * (((n : Rat) - 1) * (627 / 1000)) ≤ (cv (lagR n vw sw tw ph)).re ∧ (cv (lagR n vw sw tw ph)).re ≤ 64 * (((n : Rat) - 1) * (1885 / 1000)) ∧ A (cv (lagR n vw sw tw ph)).im ≤ 64 * (((n : Rat) - 1) * (236 / 1000)) := by
  by_cases hn : n = 1
  · subst hn
    have hx := L.x0 rfl
    have hl0 : longF (lagX 1 vw sw tw) = 0 := by
      rw [long_congr L.x fC0.1 (hx.trans v0_zero.2.symm) (by rw [hx, N_zero2]; exact Rat.le_of_lt (p2_pos _))]
      exact long_zero
    have hf := (longF_le (B := p2 (-40)) L.x (by rw [hx, N_zero2]; exact Rat.le_of_lt (p2_pos _)) (Rat.le_refl) (by decide +kernel)).1
    have hr : lagRho 1 vw sw tw = kf 0 := by unfold lagRho; rw [hl0]; decide +kernel
    have hs : fit1 (sqF (wd 0)) := by unfold fit1; decide +kernel
    have hz : cv (lagR 1 vw sw tw ph) = zero2 := by unfold lagR; rw [hr]; exact zero_scale P.f
    have hfr : fC (lagR 1 vw sw tw ph) := by
      unfold lagR
      rw [hr]
      have e : ∀ {y : Nat}, fN .f32 y = true → fN .f32 (fop .mul .f32 y (kf 0)) = true := by
        intro y hy
        exact (fop_mul_res (k := .f32) hy kf0.1 (by rw [kf0.2, show vN .f32 y * 0 = 0 by grind, A_zero]; exact p2_pos _)).1
      exact ⟨e P.f.1, e P.f.2⟩
    refine ⟨hf, by rw [hl0]; exact hs, hfr, ?_, ?_, ?_⟩ <;> (rw [hz]; decide +kernel)
  · have hn2 : 2 ≤ n := by omega
    have hx := L.x2 hn2
    have hr2 : (2 : Rat) ≤ (n : Rat) := by exact_mod_cast hn2
    have hr4 : (n : Rat) ≤ 4 := by exact_mod_cast h4
    obtain ⟨b, hb⟩ : ∃ b : Rat, (n : Rat) - 1 = b := ⟨_, rfl⟩
    rw [hb] at hx ⊢
    have b1 : 1 ≤ b := by grind
    have b3 : b ≤ 3 := by grind
    have bb1 : 1 ≤ b * b := by have := mul_le b1 b1 (by decide) (by grind); grind
    have bb9 : b * b ≤ 9 := by have := mul_le b3 b3 (by grind) (by decide); grind
    have fx := L.x
    unfold lagR lagRho
    generalize lagX n vw sw tw = x at *
    have r1 := re_le_N (cv x - sc (4096 * (b * b)) one2)
    have r2 := le_A (cv x - sc (4096 * (b * b)) one2).re
    simp only [re_sub, re_sc, re_one2] at r1 r2
    have nx := N_tri (cv x) (sc (4096 * (b * b)) one2)
    rw [N_scp (by grind), N_one2] at nx
    have lo : 4096 * (b * b) * (31 / 50) ≤ (cv x).re := by grind
    have hi : N (cv x) ≤ 4096 * (b * b) * (69 / 50) := by grind
    have c40 : p2 (-40) ≤ 1 := p2_small (by decide)
    have k40 : (100000 : Rat) ≤ p2 40 := by decide +kernel
    have hiB : 4096 * (b * b) * (69 / 50) ≤ p2 40 := Rat.le_trans (by clear k40 c40; grind) k40
    obtain ⟨g1, g2, g3, g4⟩ := longF_le fx hi (Rat.le_trans c40 (by clear k40 c40 hiB; grind)) hiB
    have g5 := longF_ge (c := 4096 * (b * b) * (31 / 50)) fx hi hiB (Rat.le_trans c40 (by clear k40 c40 hiB g4; grind)) (by
      have : 4096 * (b * b) * (31 / 50) * (4096 * (b * b) * (31 / 50)) ≤ (cv x).re * (cv x).re := mul_le lo lo (by clear k40 c40 hiB g4; grind) (by clear k40 c40 hiB g4; grind)
      have h2 := sq_nonneg (cv x).im
      unfold sqN
      clear k40 c40 hiB g4
      grind)
    generalize longF x = l at *
    have e20 : p2 (-20) = 1 / 1048576 := by decide +kernel
    rw [e20] at g4 g5
    have l1 : 4096 * (b * b) * (619 / 1000) ≤ vN .f32 l := by clear hiB k40 c40; grind
    have l2 : vN .f32 l ≤ 4096 * (b * b) * (1381 / 1000) := by clear hiB k40 c40; grind
    obtain ⟨w1, w2⟩ := wd_ok g2 (by rw [A_of_nonneg g3]; exact lt_of_p2 (a := 20) (Rat.le_trans l2 (Rat.le_trans (show _ ≤ (100000 : Rat) by clear hiB k40 c40; grind) (by decide +kernel))) (by decide))
    have y0 : 0 ≤ vN .f64 (wd l) := by rw [w2]; exact g3
    have y90 : vN .f64 (wd l) ≤ p2 90 := by rw [w2]; exact Rat.le_trans l2 (Rat.le_trans (show _ ≤ (100000 : Rat) by clear hiB k40 c40; grind) (by decide +kernel))
    have s1 := sq_ge (c := 64 * b * (786 / 1000)) w1 y0 y90 (Rat.le_trans (p2_small (by decide)) (show (1 : Rat) ≤ _ by clear hiB k40 c40; grind)) (by rw [w2]; clear hiB k40 c40; grind)
    have s2 := sq_le (c := 64 * b * (1176 / 1000)) w1 y0 y90 (Rat.le_trans (p2_small (by decide)) (show (1 : Rat) ≤ _ by clear hiB k40 c40; grind)) (by rw [w2]; clear hiB k40 c40; grind)
    obtain ⟨q1, q2, _⟩ := sq_val w1 y0 y90
    have e40 : p2 (-40) = 1 / 1099511627776 := by decide +kernel
    have e23 : p2 (-23) = 1 / 8388608 := by decide +kernel
    rw [e40] at s1 s2
    obtain ⟨m1, m2, m3, m4⟩ := nw_near (a := 64 * b * (7859 / 10000)) (b := 64 * b * (11761 / 10000)) q1 (Rat.le_trans (p2_small (by decide)) (show (1 : Rat) ≤ _ by clear hiB k40 c40; grind)) (Rat.le_trans (show _ ≤ (100000 : Rat) by clear hiB k40 c40; grind) (by decide +kernel)) (by clear hiB k40 c40; grind) (by clear hiB k40 c40; grind)
    rw [e23] at m3 m4
    generalize nw (sqF (wd l)) = rho at *
    have rl : 64 * b * (785 / 1000) ≤ vN .f32 rho := by clear hiB k40 c40; grind
    have rh : vN .f32 rho ≤ 64 * b * (1177 / 1000) := by clear hiB k40 c40; grind
    have plo : 4 / 5 ≤ vN .f32 ph.1 := P.lo
    have phi : vN .f32 ph.1 ≤ 8 / 5 := P.hi
    have pim : A (vN .f32 ph.2) ≤ 1 / 5 := P.im
    have x1 : 4 / 5 * (64 * b * (785 / 1000)) ≤ vN .f32 ph.1 * vN .f32 rho := mul_le plo rl (by clear hiB k40 c40; grind) (by clear hiB k40 c40; grind)
    have x2 : vN .f32 ph.1 * vN .f32 rho ≤ 8 / 5 * (64 * b * (1177 / 1000)) := mul_le phi rh (by clear hiB k40 c40; grind) (by decide +kernel)
    have x3 : A (vN .f32 ph.2 * vN .f32 rho) ≤ 1 / 5 * (64 * b * (1177 / 1000)) := by
      rw [A_mul, A_of_nonneg (show 0 ≤ vN .f32 rho by clear hiB k40 c40; grind)]
      exact mul_le pim rh (by clear hiB k40 c40; grind) (by decide +kernel)
    have x4 : A (vN .f32 ph.1 * vN .f32 rho) ≤ 8 / 5 * (64 * b * (1177 / 1000)) := by rw [A_of_nonneg (by clear hiB k40 c40; grind)]; exact x2
    have big : 8 / 5 * (64 * b * (1177 / 1000)) ≤ 1073741824 := by clear hiB k40 c40; grind
    have big2 : 1 / 5 * (64 * b * (1177 / 1000)) ≤ 1073741824 := by clear hiB k40 c40; grind
    have R1 := fop_mul_res (k := .f32) P.f.1 m2 (big30 (Rat.le_trans x4 big) (by decide))
    have R2 := fop_mul_res (k := .f32) P.f.2 m2 (big30 (Rat.le_trans x3 big2) (by decide))
    have n1 := (near1_res R1).2
    have n2 := (near1_res R2).2
    have n1' : A (vN .f32 (fop .mul .f32 ph.1 rho) - vN .f32 ph.1 * vN .f32 rho) ≤ 1 / 1000000 * (8 / 5 * (64 * b * (1177 / 1000))) + 1 / 1000000 := Rat.le_trans n1 (add_le (mul_le (show u1 ≤ 1 / 1000000 by decide +kernel) x4 (A_nonneg _) (by decide +kernel)) (by decide +kernel))
    have n2' : A (vN .f32 (fop .mul .f32 ph.2 rho) - vN .f32 ph.2 * vN .f32 rho) ≤ 1 / 1000000 * (1 / 5 * (64 * b * (1177 / 1000))) + 1 / 1000000 := Rat.le_trans n2 (add_le (mul_le (show u1 ≤ 1 / 1000000 by decide +kernel) x3 (A_nonneg _) (by decide +kernel)) (by decide +kernel))
    have y1 := le_A (vN .f32 (fop .mul .f32 ph.1 rho) - vN .f32 ph.1 * vN .f32 rho)
    have y2 := A_add (vN .f32 (fop .mul .f32 ph.2 rho) - vN .f32 ph.2 * vN .f32 rho) (vN .f32 ph.2 * vN .f32 rho)
    rw [show vN .f32 (fop .mul .f32 ph.2 rho) - vN .f32 ph.2 * vN .f32 rho + vN .f32 ph.2 * vN .f32 rho = vN .f32 (fop .mul .f32 ph.2 rho) by grind] at y2
    refine ⟨g1, q2, ⟨R1.1, R2.1⟩, ?_, ?_, ?_⟩
    · show _ ≤ vN .f32 (fop .mul .f32 ph.1 rho)
      clear hiB k40 c40 n1 n2; grind
    · show vN .f32 (fop .mul .f32 ph.1 rho) ≤ _
      clear hiB k40 c40 n1 n2; grind
    · show A (vN .f32 (fop .mul .f32 ph.2 rho)) ≤ _
      clear hiB k40 c40 n1 n2; grind
end Go.Proofs.YtfnhddaofllniaaGreat

/- Laguerre's step comes near the root. Conditions: the phase is near 1; the values are near those of a simple root. -/
namespace Go.Proofs.YtfnhddaofllniaaGreat
open Go
set_option linter.unusedSimpArgs false
set_option linter.unusedVariables false

theorem le_of_parts {x y : Rat} (h1 : x ≤ y) (h2 : -x ≤ y) : A x ≤ y := A_le.2 ⟨h1, h2⟩
/-- Exactly: the quotient by what lies in a box around n. -/
theorem lag_box {r : Rat} {g q E : Q2} (hr : 1 ≤ r) (hq : q * g = sc r one2) (hg : g = sc (64 * r) (one2 + E)) (h1 : -(33 / 100) ≤ E.re) (h2 : E.re ≤ 72 / 100) (h3 : A E.im ≤ 23 / 100) : sqN (q - dl) ≤ 47 / 5000 * (47 / 5000) ∧ N (q - dl) ≤ 1 / 50 := by
  have e1 : (q - dl) * (one2 + E) = dl * (zero2 - E) := by
    have k : sc (64 * r) ((q - dl) * (one2 + E)) = sc (64 * r) (dl * (zero2 - E)) := by
      have a : sc (64 * r) ((q - dl) * (one2 + E)) = q * g - dl * sc (64 * r) (one2 + E) := by rw [hg]; exact q2e (by simp; grind) (by simp; grind)
      rw [a, hq]
      exact q2e (by simp; grind) (by simp; grind)
    have h64 : 0 < 64 * r := by grind
    refine q2e ?_ ?_
    · have := congrArg Q2.re k
      simp only [re_sc] at this
      exact rcancel h64 (by rw [Rat.mul_comm, this, Rat.mul_comm])
    · have := congrArg Q2.im k
      simp only [im_sc] at this
      exact rcancel h64 (by rw [Rat.mul_comm, this, Rat.mul_comm])
  have e2 : sqN (q - dl) * sqN (one2 + E) = 1 / 4096 * sqN E := by
    rw [← sqN_mul, e1]; unfold sqN; simp; grind
  have b1 := mul_le h3 h3 (A_nonneg _) (by decide +kernel)
  rw [← sq_A] at b1
  have b2 : 0 ≤ (E.re + 33 / 100) * (72 / 100 - E.re) := Rat.mul_nonneg (by grind) (by grind)
  have b3 := sq_nonneg E.im
  have b4 : sqN E ≤ 3619 / 10000 * sqN (one2 + E) := by
    unfold sqN
    simp only [re_add, im_add, re_one2, im_one2]
    grind
  have b5 : 0 < sqN (one2 + E) := by
    have c : 0 < (1 + E.re) * (1 + E.re) := Rat.mul_pos (by grind) (by grind)
    unfold sqN
    simp only [re_add, im_add, re_one2, im_one2]
    grind
  have b6 : sqN (q - dl) ≤ 47 / 5000 * (47 / 5000) := by
    refine lcancel_le b5 ?_
    rw [e2]
    have := Rat.le_of_lt b5
    grind
  refine ⟨b6, ?_⟩
  refine sq_le_sq (by decide +kernel) ?_
  have := sqN_ge (q - dl)
  grind
theorem finish2 {z rt q : C2} {q0 : Q2} (hz : fC z) (hn : N (cv z) ≤ 193 / 64) (hr : fC rt) (er : cv z = cv rt + dl) (hq : fC q) (nq : N (cv q - q0) ≤ 2 / 1000000) (n0 : N (q0 - dl) ≤ 1 / 50) (s0 : sqN (q0 - dl) ≤ 47 / 5000 * (47 / 5000)) :
    fC (subC z q) ∧ fC (subC (subC z q) rt) ∧ N (cv (subC (subC z q) rt)) ≤ 1 ∧ sqN (cv (subC (subC z q) rt)) ≤ 19 / 2000 * (19 / 2000) := by
  have t0 := N_add (cv q - q0) (q0 - dl)
  rw [show cv q - q0 + (q0 - dl) = cv q - dl from q2e (by simp; grind) (by simp; grind)] at t0
  have t1 := N_tri (cv q) dl
  rw [N_dl] at t1
  have t2 := N_sub (cv z) (cv q)
  have h5 : N (cv z - cv q) ≤ 4 := by grind
  obtain ⟨f1, n1⟩ := subC_near hz hq (lt_of_p2 (a := 2) (Rat.le_trans h5 (by decide +kernel)) (by decide))
  have n1' := near_ap ⟨f1, n1⟩ h5
  have e2 : cv (subC z q) - cv rt = (cv (subC z q) - (cv z - cv q)) - (cv q - dl) := by
    rw [er]; exact q2e (by simp; grind) (by simp; grind)
  have t3 := N_sub (cv (subC z q) - (cv z - cv q)) (cv q - dl)
  rw [← e2] at t3
  clear n1
  have h6 : N (cv (subC z q) - cv rt) ≤ 3 / 100 := by grind
  obtain ⟨f2, n2⟩ := subC_near f1 hr (lt_of_p2 (a := 2) (Rat.le_trans h6 (by decide +kernel)) (by decide))
  have n2' := near_ap ⟨f2, n2⟩ h6
  clear n2
  have e3 : cv (subC (subC z q) rt) = (zero2 - (q0 - dl)) + ((cv (subC (subC z q) rt) - (cv (subC z q) - cv rt)) + ((cv (subC z q) - (cv z - cv q)) - (cv q - q0))) := by
    rw [er]; exact q2e (by simp; grind) (by simp; grind)
  have k1 := N_add (cv (subC (subC z q) rt) - (cv (subC z q) - cv rt)) ((cv (subC z q) - (cv z - cv q)) - (cv q - q0))
  have k2 := N_sub (cv (subC z q) - (cv z - cv q)) (cv q - q0)
  have k3 : N ((cv (subC (subC z q) rt) - (cv (subC z q) - cv rt)) + ((cv (subC z q) - (cv z - cv q)) - (cv q - q0))) ≤ 1 / 100000 := by grind
  have k4 := sqN_add (zero2 - (q0 - dl)) ((cv (subC (subC z q) rt) - (cv (subC z q) - cv rt)) + ((cv (subC z q) - (cv z - cv q)) - (cv q - q0)))
  rw [← e3] at k4
  have e4 : sqN (zero2 - (q0 - dl)) = sqN (q0 - dl) := by unfold sqN; simp; grind
  have e5 : N (zero2 - (q0 - dl)) = N (q0 - dl) := by
    rw [show zero2 - (q0 - dl) = -(q0 - dl) from q2e (by simp; try grind) (by simp; try grind), N_neg]
  rw [e4, e5] at k4
  have k5 := mul_le n0 k3 (N_nonneg _) (by decide +kernel)
  have k6 := mul_le k3 k3 (N_nonneg _) (by decide +kernel)
  have k7 := N_tri (cv (subC (subC z q) rt)) (cv (subC z q) - cv rt)
  exact ⟨f1, f2, by grind, by grind⟩
theorem add_zero_v {x y : C2} (hx : fC x) (hy : fC y) (h : cv y = zero2) (hb : N (cv x) ≤ 1073741824) : cv (addC x y) = cv x ∧ cv (subC x y) = cv x := by
  have h1 : vN .f32 y.1 = 0 := congrArg Q2.re h
  have h2 : vN .f32 y.2 = 0 := congrArg Q2.im h
  have part : ∀ {a b : Nat}, fN .f32 a = true → fN .f32 b = true → vN .f32 b = 0 → A (vN .f32 a) ≤ 1073741824 → vN .f32 (fop .add .f32 a b) = vN .f32 a ∧ vN .f32 (fop .sub .f32 a b) = vN .f32 a := by
    intro a b ha hb h0 hA
    obtain ⟨m, i, a1, a2, a3⟩ := vN_lt .f32 ha
    have s1 : vN .f32 a + vN .f32 b = vN .f32 a := by rw [h0]; grind
    have s2 : vN .f32 a - vN .f32 b = vN .f32 a := by rw [h0]; grind
    have R1 := fop_add_res (k := .f32) ha hb (by rw [s1]; exact big30 hA (by decide))
    have R2 := fop_sub_res (k := .f32) ha hb (by rw [s2]; exact big30 hA (by decide))
    rw [s1] at R1
    rw [s2] at R2
    exact ⟨R1.2.2 m i a1 a2 a3, R2.2.2 m i a1 a2 a3⟩
  have a1 : A (vN .f32 x.1) ≤ N (cv x) := re_le_N (cv x)
  have a2 : A (vN .f32 x.2) ≤ N (cv x) := im_le_N (cv x)
  obtain ⟨b1, b2⟩ := part hx.1 hy.1 h1 (Rat.le_trans a1 hb)
  obtain ⟨c1, c2⟩ := part hx.2 hy.2 h2 (Rat.le_trans a2 hb)
  exact ⟨q2e b1 c1, q2e b2 c2⟩

theorem lag_fin {n : Nat} {v s t a' : Q2} {vw sw tw ph z rt : C2} (L : LagX n v s t a' vw sw tw) (P : PhOk ph) (h1 : 1 ≤ n) (h4 : n ≤ 4) (hz : fC z) (hn : N (cv z) ≤ 193 / 64) (hr : fC rt) (er : cv z = cv rt + dl) :
    fit1 (sqF (powerF (lagG n vw sw tw ph))) ∧ fit1 (sqF (powerF (lagH n vw sw tw ph))) ∧ fcmp .gtr .f32 (longF (lagH n vw sw tw ph)) (longF (lagG n vw sw tw ph)) = false ∧ quoFit (kf n, 0) (lagG n vw sw tw ph) ∧
    fC (lagQ n vw sw tw ph) ∧ fC (subC z (lagQ n vw sw tw ph)) ∧ fC (subC (subC z (lagQ n vw sw tw ph)) rt) ∧ N (cv (subC (subC z (lagQ n vw sw tw ph)) rt)) ≤ 1 ∧ sqN (cv (subC (subC z (lagQ n vw sw tw ph)) rt)) ≤ 19 / 2000 * (19 / 2000) := by
  obtain ⟨_, _, fr, r1, r2, r3⟩ := rho_ok L P h1 h4
  have hr1 : (1 : Rat) ≤ (n : Rat) := by exact_mod_cast h1
  have hr4 : (n : Rat) ≤ 4 := by exact_mod_cast h4
  have kn := kf_ok h4
  have fa := L.a.1
  have na : N (cv (lagA vw sw) - sc 64 one2) ≤ 64 * (1951 / 10000) := by
    have e : cv (lagA vw sw) - sc 64 one2 = (cv (lagA vw sw) - sc 64 a') + sc 64 (a' - one2) := q2e (by simp; grind) (by simp; grind)
    have k := N_add (cv (lagA vw sw) - sc 64 a') (sc 64 (a' - one2))
    rw [← e, N_scp (by decide)] at k
    have := L.a.2
    have := L.a1
    grind
  have hgt : ∀ {x : Nat}, n = 1 → cv (lagR n vw sw tw ph) = zero2 := by
    intro _ hn1
    subst hn1
    have e0 : (((1 : Nat) : Rat)) - 1 = 0 := by decide +kernel
    rw [e0] at r1 r2 r3
    have i0 := A_nonneg (cv (lagR 1 vw sw tw ph)).im
    refine q2e ?_ ?_
    · show _ = (0 : Rat); grind
    · exact A_eq_zero (by grind)
  unfold lagQ lagG lagH
  generalize lagA vw sw = aw at *
  generalize lagR n vw sw tw ph = rw' at *
  obtain ⟨b, hb⟩ : ∃ b : Rat, (n : Rat) - 1 = b := ⟨_, rfl⟩
  have hnb : (n : Rat) = b + 1 := by grind
  rw [hb] at r1 r2 r3
  have b0 : 0 ≤ b := by grind
  have b3 : b ≤ 3 := by grind
  have p1 := re_le_N (cv aw - sc 64 one2)
  have p2' := im_le_N (cv aw - sc 64 one2)
  have p3 := le_A (cv aw - sc 64 one2).re
  simp only [re_sub, im_sub, re_sc, im_sc, re_one2, im_one2] at p1 p2' p3
  have p4 : A (cv aw).im ≤ 64 * (1951 / 10000) := by
    have : (cv aw).im - 64 * 0 = (cv aw).im := by grind
    rw [this] at p2'; grind
  have p5 := le_A (cv aw).im
  have p6 := le_A (cv rw').im
  have nA : N (cv aw) ≤ 64 * (12 / 10) := by
    have := N_tri (cv aw) (sc 64 one2)
    rw [N_scp (by decide), N_one2] at this
    grind
  have rr0 : 0 ≤ (cv rw').re := by grind
  have nR : N (cv rw') ≤ 64 * (7 : Rat) := by
    unfold N
    rw [A_of_nonneg rr0]
    grind
  have s1 := N_add (cv aw) (cv rw')
  have s2 := N_sub (cv aw) (cv rw')
  have s3 : N (cv aw + cv rw') ≤ 600 := by grind
  have s4 : N (cv aw - cv rw') ≤ 600 := by grind
  have G := addC_near fa fr (big30 (Rat.le_trans s3 (by decide +kernel)) (by decide))
  have Hh := subC_near fa fr (big30 (Rat.le_trans s4 (by decide +kernel)) (by decide))
  have nG := near_ap G s3
  have nH := near_ap Hh s4
  have fG := G.1
  have fH := Hh.1
  clear G Hh
  -- the sum lies in a box
  have u1' := re_le_N (cv (addC aw rw') - (cv aw + cv rw'))
  have u2 := im_le_N (cv (addC aw rw') - (cv aw + cv rw'))
  have u3 := le_A (cv (addC aw rw') - (cv aw + cv rw')).re
  have u4 := le_A (cv (addC aw rw') - (cv aw + cv rw')).im
  simp only [re_sub, im_sub, re_add, im_add] at u1' u2 u3 u4
  have NG : N (cv (addC aw rw')) ≤ 601 := by have := N_tri (cv (addC aw rw')) (cv aw + cv rw'); grind
  have NH : N (cv (subC aw rw')) ≤ 601 := by have := N_tri (cv (subC aw rw')) (cv aw - cv rw'); grind
  have greLo : 64 * (b + 1) * (67 / 100) ≤ (cv (addC aw rw')).re := by grind
  have greHi : (cv (addC aw rw')).re ≤ 64 * (b + 1) * (172 / 100) := by grind
  have gimA : A (cv (addC aw rw')).im ≤ 64 * (b + 1) * (23 / 100) := le_of_parts (by grind) (by grind)
  have k601 : (601 : Rat) ≤ p2 40 := by decide +kernel
  have k601' : (601 : Rat) ≤ p2 44 := by decide +kernel
  have c40 : p2 (-40) ≤ 601 := by decide +kernel
  have fitG := (longF_le (B := 601) fG NG c40 k601)
  have fitH := (longF_le (B := 601) fH NH c40 k601)
  have hgtr : fcmp .gtr .f32 (longF (subC aw rw')) (longF (addC aw rw')) = false := by
    rw [cmp_gtr fitH.2.1 fitG.2.1]
    simp only [decide_eq_false_iff_not]
    by_cases hn1 : n = 1
    · have hz2 := hgt (x := 0) hn1
      obtain ⟨e1', e2'⟩ := add_zero_v fa fr hz2 (Rat.le_trans nA (by decide +kernel))
      have : longF (subC aw rw') = longF (addC aw rw') := long_congr fH fG (e2'.trans e1'.symm) (Rat.le_trans NH k601')
      rw [this]
      exact Rat.lt_irrefl
    · have hn2 : (2 : Rat) ≤ (n : Rat) := by exact_mod_cast (show 2 ≤ n by omega)
      have b1 : 1 ≤ b := by grind
      have w1 : N (cv aw - cv rw') ≤ (cv aw).re + (cv rw').re - 40 := by
        unfold N
        simp only [re_sub, im_sub]
        have y1 := A_sub (cv aw).im (cv rw').im
        have y2 : A ((cv aw).re - (cv rw').re) ≤ (cv aw).re + (cv rw').re - 40 - (64 * (1951 / 10000) + 64 * (b * (236 / 1000))) := le_of_parts (by grind) (by grind)
        grind
      have w2 : N (cv (subC aw rw')) ≤ (cv aw).re + (cv rw').re - 39 := by have := N_tri (cv (subC aw rw')) (cv aw - cv rw'); grind
      have w3 : (cv aw).re + (cv rw').re - 1 ≤ (cv (addC aw rw')).re := by grind
      have w4 : (cv aw).re + (cv rw').re - 39 ≤ 601 := by grind
      have w5 : 1 ≤ (cv aw).re + (cv rw').re - 39 := by grind
      have v1 := (longF_le (B := (cv aw).re + (cv rw').re - 39) fH w2 (Rat.le_trans (p2_small (by decide)) w5) (Rat.le_trans w4 k601)).2.2.2
      have v2 := longF_ge (c := (cv aw).re + (cv rw').re - 1) fG NG k601 (Rat.le_trans (p2_small (by decide)) (by clear v1 k601 k601' c40; grind)) (by
        have y3 := mul_le w3 w3 (by clear v1 k601 k601' c40; grind) (by clear v1 k601 k601' c40; grind)
        have y4 := sq_nonneg (cv (addC aw rw')).im
        unfold sqN
        clear v1 k601 k601' c40
        grind)
      have e20 : p2 (-20) = 1 / 1048576 := by decide +kernel
      rw [e20] at v1 v2
      clear k601 k601' c40 fitG fitH
      grind
  -- the quotient
  have hpos : 0 < N (cv (addC aw rw')) := by
    have := re_le_N (cv (addC aw rw'))
    have := le_A (cv (addC aw rw')).re
    clear k601 k601' c40 fitG fitH
    grind
  have ekn : cv (kf n, 0) = sc (b + 1) one2 := by
    unfold cv
    refine q2e ?_ ?_
    · simp only [re_sc, re_one2]
      rw [kn.2, hnb]; grind
    · simp only [im_sc, im_one2]
      rw [vN0]; grind
  have fkn : fC (kf n, 0) := ⟨kn.1, fC0.1.2⟩
  obtain ⟨q, hq⟩ := quo_ex (cv (kf n, 0)) hpos
  have hr' : (0 : Rat) < 64 * (b + 1) := by clear k601 k601' c40 fitG fitH; grind
  obtain ⟨k1, k2⟩ := lag_box (r := b + 1) (g := cv (addC aw rw')) (q := q) (E := ⟨(cv (addC aw rw')).re * (64 * (b + 1))⁻¹ - 1, (cv (addC aw rw')).im * (64 * (b + 1))⁻¹⟩) (by clear k601 k601' c40 fitG fitH; grind) (by rw [hq, ekn])
    (by
      have hi : (64 * (b + 1)) * (64 * (b + 1))⁻¹ = 1 := Rat.mul_inv_cancel _ (by intro h0; rw [h0] at hr'; exact absurd hr' (by decide))
      generalize (64 * (b + 1))⁻¹ = i at *
      clear k601 k601' c40 fitG fitH
      refine q2e ?_ ?_ <;> (simp; grind))
    (by
      have hi : (64 * (b + 1)) * (64 * (b + 1))⁻¹ = 1 := Rat.mul_inv_cancel _ (by intro h0; rw [h0] at hr'; exact absurd hr' (by decide))
      show _ ≤ (cv (addC aw rw')).re * (64 * (b + 1))⁻¹ - 1
      have : 67 / 100 ≤ (cv (addC aw rw')).re * (64 * (b + 1))⁻¹ := lcancel_le hr' (by rw [Rat.mul_assoc, Rat.inv_mul_cancel _ (by intro h0; rw [h0] at hr'; exact absurd hr' (by decide))]; clear k601 k601' c40 fitG fitH hi; grind)
      clear k601 k601' c40 fitG fitH hi
      grind)
    (by
      show (cv (addC aw rw')).re * (64 * (b + 1))⁻¹ - 1 ≤ _
      have : (cv (addC aw rw')).re * (64 * (b + 1))⁻¹ ≤ 172 / 100 := lcancel_le hr' (by rw [Rat.mul_assoc, Rat.inv_mul_cancel _ (by intro h0; rw [h0] at hr'; exact absurd hr' (by decide))]; clear k601 k601' c40 fitG fitH; grind)
      clear k601 k601' c40 fitG fitH
      grind)
    (by
      show A ((cv (addC aw rw')).im * (64 * (b + 1))⁻¹) ≤ _
      refine lcancel_le hr' ?_
      have : A ((cv (addC aw rw')).im * (64 * (b + 1))⁻¹) * (64 * (b + 1)) = A (cv (addC aw rw')).im := by
        conv => lhs; rhs; rw [← A_of_nonneg (Rat.le_of_lt hr')]
        rw [← A_mul, Rat.mul_assoc, Rat.inv_mul_cancel _ (by intro h0; rw [h0] at hr'; exact absurd hr' (by decide)), Rat.mul_one]
      rw [this]
      clear k601 k601' c40 fitG fitH
      grind)
  have nq1 : N q ≤ 1 := by
    have := N_tri q dl
    rw [N_dl] at this
    clear k601 k601' c40 fitG fitH
    grind
  have nk : N (cv (kf n, 0)) ≤ 4 := by
    rw [ekn, N_scp (by clear k601 k601' c40 fitG fitH; grind), N_one2]
    clear k601 k601' c40 fitG fitH
    grind
  have lowG : (1 : Rat) ≤ N (cv (addC aw rw')) := by
    have := re_le_N (cv (addC aw rw'))
    have := le_A (cv (addC aw rw')).re
    clear k601 k601' c40 fitG fitH
    grind
  obtain ⟨q1, q2⟩ := quoC_near fkn fG hq (big30 (Rat.le_trans nk (by decide +kernel)) (by decide)) (big30 (Rat.le_trans NG (by decide +kernel)) (by decide)) (Rat.le_trans (p2_small (by decide)) lowG) (big30 (Rat.le_trans nq1 (by decide +kernel)) (by decide))
  have nq := near_ap q2 nq1
  obtain ⟨z1, z2, z3, z4⟩ := finish2 hz hn hr er q2.1 (Rat.le_trans nq (by decide +kernel)) k2 k1
  exact ⟨fitG.1, fitH.1, hgtr, q1, q2.1, z1, z2, z3, z4⟩
end Go.Proofs.YtfnhddaofllniaaGreat
