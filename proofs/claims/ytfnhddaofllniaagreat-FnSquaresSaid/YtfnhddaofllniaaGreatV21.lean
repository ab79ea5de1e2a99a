/- Roots that are followed: every step of every stage is safe; the polynomials between are exact. Conditions: up to four drawn roots; the second polynomial is the first, 1/16 added. -/
import Derived.Test.YtfnhddaofllniaaGreatV20
import Derived.Test.YtfnhddaofllniaaGreatV7
import Derived.Lib.SliceRun
import Derived.Laws.OwnMore
namespace Go.Proofs.YtfnhddaofllniaaGreat
open Go
set_option linter.unusedSimpArgs false
set_option linter.unusedVariables false

/-- What is added in stage k. -/
def hk (k : Nat) : Q2 := ⟨(k : Rat) * (1 / 64), 0⟩
/-- A root that is followed through the polynomials H 1, H 2, .. -/
def folR (H : Nat → List C2) (z0 : C2) : Nat → C2
  | 0 => z0
  | k + 1 => (polishF (H (k + 1)) 3 (folR H z0 k)).1
section
variable {ls : List C2} {X : Nat → Int × Int}
theorem lV_more {C E F D : Q2} {k : Nat} {r : Rat} (h : Ab (lV C E F D (hk k)) (r - 1 / 64)) : Ab (lV C E F D (hk (k + 1))) r := by
  have e : lV C E F D (hk (k + 1)) = lV C E F D (hk k) + ⟨1 / 64, 0⟩ := by
    unfold lV
    generalize D + C * (D * D) + E * (D * (D * D)) + F * (D * D * (D * D)) = x
    refine q2e ?_ ?_
    · show x.re + ((k + 1 : Nat) : Rat) * (1 / 64) = x.re + (k : Rat) * (1 / 64) + 1 / 64
      rw [Rat.natCast_add]
      have : ((1 : Nat) : Rat) = 1 := rfl
      grind
    · show x.im + 0 = x.im + 0 + 0; grind
  rw [e]
  exact (h.add (show Ab ⟨1 / 64, 0⟩ (1 / 64) from ⟨by decide +kernel, by decide +kernel⟩)).mono (by grind)
theorem fol_seq (h : DX ls X) (h1 : 1 ≤ ls.length) (h4 : ls.length ≤ 4) {H : Nat → List C2} (hH : ∀ k, 1 ≤ k → k ≤ 4 → HPo (H k) X ls.length (hk k)) {i : Nat} (hi : i < ls.length) :
    ∀ k, k ≤ 4 → fC (folR H ((ls.map nc).getD i (0, 0)) k) ∧ N (cv (folR H ((ls.map nc).getD i (0, 0)) k)) ≤ 25 / 8 ∧
      (k < 4 → safePolish (H (k + 1)) 3 (folR H ((ls.map nc).getD i (0, 0)) k) ∧ polishF (H (k + 1)) 3 (folR H ((ls.map nc).getD i (0, 0)) k) = (folR H ((ls.map nc).getD i (0, 0)) (k + 1), true)) := by
  obtain ⟨M, IM, c2, c3, c4, c, f, g, mu, Mu, be, ep, d, r, t, nn, q, K, B, hb, hm, hz⟩ := h.loc h4 hi
  have hX : ∀ j, j < ls.length → nz (X j) ≤ nb j := fun j hj => nb_ok h h4 hj
  have L := fun k a b => (hH k a b).loc h1 h4 hX K.i hz
  have g0 := h.g i hi
  have er : cv ((ls.map nc).getD i (0, 0)) = rq X i := g0.2
  have hr : ∀ j, j < 4 → At M (IM * IM * c2) (IM * (IM * IM) * c3) (IM * IM * (IM * IM) * c4) (rq X i) (hk (j + 1)) (gd d (3 * j)) (gd r (3 * j)) (folR H ((ls.map nc).getD i (0, 0)) j) := by
    intro j
    induction j with
    | zero =>
      intro _
      have d0 : M * (cv ((ls.map nc).getD i (0, 0)) - rq X i) = zero2 := by rw [er]; exact q2e (by simp [zero2]; try grind) (by simp [zero2]; try grind)
      refine ⟨g0.1, ?_, ?_⟩
      · show Ab (M * (cv ((ls.map nc).getD i (0, 0)) - rq X i)) (gd d 0)
        rw [d0, ← B.1.1]; exact Ab.zero
      · show Ab (lV _ _ _ (M * (cv ((ls.map nc).getD i (0, 0)) - rq X i)) (hk 1)) (gd r 0)
        rw [d0]
        have e : lV (IM * IM * c2) (IM * (IM * IM) * c3) (IM * IM * (IM * IM) * c4) zero2 (hk 1) = ⟨1 / 64, 0⟩ := by
          unfold lV
          generalize IM * IM * c2 = a1
          generalize IM * (IM * IM) * c3 = a2
          generalize IM * IM * (IM * IM) * c4 = a3
          exact q2e (by simp [zero2, hk]; try grind) (by simp [zero2, hk]; try grind)
        rw [e]
        exact (show Ab ⟨1 / 64, 0⟩ (1 / 64) from ⟨by decide +kernel, by decide +kernel⟩).mono B.1.2
    | succ j ih =>
      intro hj
      obtain ⟨_, z', e, a⟩ := fol_three (L (j + 1) (by omega) (by omega)) K B hb hm (show j < 4 by omega) (ih (by omega))
      rw [if_neg (by omega)] at a
      have ez : folR H ((ls.map nc).getD i (0, 0)) (j + 1) = z' := by show (polishF _ 3 _).1 = _; rw [e]
      rw [ez]
      exact ⟨a.f, a.d, lV_more a.v⟩
  intro k hk4
  by_cases hk : k < 4
  · have a := hr k hk
    obtain ⟨s, z', e, _⟩ := fol_three (L (k + 1) (by omega) (by omega)) K B hb hm hk a
    refine ⟨a.f, a.near K ?_, fun _ => ⟨s, ?_⟩⟩
    · have := Rat.mul_le_mul_of_nonneg_left (hm (3 * k) (by omega)) K.b.1
      grind
    · have ez : folR H ((ls.map nc).getD i (0, 0)) (k + 1) = z' := by show (polishF _ 3 _).1 = _; rw [e]
      rw [e, ez]
  · obtain rfl : k = 4 := by omega
    obtain ⟨_, z', e, a⟩ := fol_three (L 4 (by omega) (by omega)) K B hb hm (show 3 < 4 by omega) (hr 3 (by omega))
    have ez : folR H ((ls.map nc).getD i (0, 0)) 4 = z' := by show (polishF _ 3 _).1 = _; rw [e]
    rw [ez]
    exact ⟨a.f, a.near K hb, fun hh => absurd hh (by omega)⟩
end
/-- The sum of two polynomials, weighed. -/
def weighF (a b : List C2) (x y : C2) : List C2 := (List.range (max a.length b.length)).map fun k => addC (mulC (a.getD k (0, 0)) x) (mulC (b.getD k (0, 0)) y)
def safeWeigh (a b : List C2) (x y : C2) : Prop := ∀ k, k < max a.length b.length → fit2 (timesF (a.getD k (0, 0)) x) ∧ fit2 (timesF (b.getD k (0, 0)) y)
/-- k / 4 and 1 - k / 4. -/
def wt (k : Nat) : Nat := fop .quo .f32 (nrm .f32 (floatOfInt .f32 (k : Int))) (nrm .f32 (floatOfInt .f32 4))
def wx (k : Nat) : Nat := fop .sub .f32 (nrm .f32 1065353216) (wt k)
theorem wt_ok : ∀ k : Nat, k < 5 → fN .f32 (wt k) = true ∧ vN .f32 (wt k) = ((k : Int) : Rat) * p2 (-2) := by decide +kernel
theorem wx_ok : ∀ k : Nat, k < 5 → fN .f32 (wx k) = true ∧ vN .f32 (wx k) = ((4 - (k : Int) : Int) : Rat) * p2 (-2) := by decide +kernel
theorem wt_gr {k : Nat} (hk : k < 5) : Gr (wt k, 0) (k : Int) 0 2 := by
  obtain ⟨a, b⟩ := wt_ok k hk
  exact ⟨⟨a, fC0.1.2⟩, q2e b (by have := congrArg Q2.im (Gr.zero 2).2; exact this)⟩
theorem wx_gr {k : Nat} (hk : k < 5) : Gr (wx k, 0) (4 - (k : Int)) 0 2 := by
  obtain ⟨a, b⟩ := wx_ok k hk
  exact ⟨⟨a, fC0.1.2⟩, q2e b (by have := congrArg Q2.im (Gr.zero 2).2; exact this)⟩
theorem Gr.low {w : C2} {a b : Int} {j m : Nat} (h : Gr w (a * 2 ^ m) (b * 2 ^ m) (j + m)) : Gr w a b j := by
  refine ⟨h.1, h.2.trans ?_⟩
  have hp : p2 (-(j : Int)) = ((2 ^ m : Nat) : Rat) * p2 (-((j + m : Nat) : Int)) := by rw [← p2_nat, ← p2_add]; congr 1; omega
  have hk : (((2 : Int) ^ m : Int) : Rat) = ((2 ^ m : Nat) : Rat) := by rw [← Rat.intCast_natCast]; congr 1
  rw [hp]
  exact q2e (by show ((a * 2 ^ m : Int) : Rat) * _ = (a : Rat) * _; rw [Rat.intCast_mul, hk]; grind) (by show ((b * 2 ^ m : Int) : Rat) * _ = (b : Rat) * _; rw [Rat.intCast_mul, hk]; grind)
/-- The same number weighed is itself; a number with 2 ^ s added to it is moved by k quarters of that. -/
theorem weigh_one {a b : C2} {u : Int × Int} {s : Int} {j k : Nat} (ha : Gr a u.1 u.2 j) (hb : Gr b (u.1 + s) u.2 j) (hs : 0 ≤ s) (hu : nz u + s.natAbs < 2 ^ 21) (hj : j ≤ 90) (hk : k < 5) :
    fit2 (timesF a (wx k, 0)) ∧ fit2 (timesF b (wt k, 0)) ∧ Gr (addC (mulC a (wx k, 0)) (mulC b (wt k, 0))) (4 * u.1 + (k : Int) * s) (4 * u.2) (j + 2) := by
  have nu : nz (u.1 + s, u.2) ≤ nz u + s.natAbs := by unfold nz; simp only; omega
  have nx : nz ((4 - (k : Int), 0) : Int × Int) = 4 - k := by unfold nz; simp only; omega
  have nt : nz (((k : Int), 0) : Int × Int) = k := by unfold nz; simp only; omega
  have m1 : nz u * (4 - k) ≤ nz u * 4 := Nat.mul_le_mul_left _ (by omega)
  have m2 : nz (u.1 + s, u.2) * k ≤ nz (u.1 + s, u.2) * 4 := Nat.mul_le_mul_left _ (by omega)
  obtain ⟨f1, g1⟩ := Gr.mulB (u := u) (v := (4 - (k : Int), 0)) ha (wx_gr hk) (by omega) (by rw [nx]; omega) (by rw [nx]; omega) (by omega)
  obtain ⟨f2, g2⟩ := Gr.mulB (u := (u.1 + s, u.2)) (v := ((k : Int), 0)) hb (wt_gr hk) (by omega) (by rw [nt]; omega) (by rw [nt]; omega) (by omega)
  have a1 := nz_mul u (4 - (k : Int), 0)
  have a2 := nz_mul (u.1 + s, u.2) ((k : Int), 0)
  rw [nx] at a1
  rw [nt] at a2
  have g := Gr.addB (u := zm u (4 - (k : Int), 0)) (v := zm (u.1 + s, u.2) ((k : Int), 0)) g1 g2 (by omega) (by omega)
  refine ⟨f1, f2, g.cast ?_ ?_⟩
  · show (u.1 * (4 - (k : Int)) - u.2 * 0) + ((u.1 + s) * (k : Int) - u.2 * 0) = _
    grind
  · show (u.1 * 0 + u.2 * (4 - (k : Int))) + ((u.1 + s) * 0 + u.2 * (k : Int)) = _
    grind
end Go.Proofs.YtfnhddaofllniaaGreat

/- The polynomials between, of words; the moved roots' values. Conditions: up to four drawn roots. -/
namespace Go.Proofs.YtfnhddaofllniaaGreat
open Go
set_option linter.unusedSimpArgs false
set_option linter.unusedVariables false

def hw : C2 := (1031798784, 0)
theorem hw_gr : Gr hw 1 0 4 := by
  have hd : FloatKind.f32.decode 1031798784 = .number false 8388608 (-27) := by decide +kernel
  refine ⟨⟨by show fN .f32 1031798784 = true; unfold fN; rw [hd]; rfl, fC0.1.2⟩, q2e ?_ ?_⟩
  · show vN .f32 1031798784 = _; unfold vN; rw [hd]; decide +kernel
  · have := congrArg Q2.im (Gr.zero 4).2
    exact this
/-- The second polynomial. -/
def qP (P : List C2) : List C2 := P.set 0 (addC (P.getD 0 (0, 0)) hw)
theorem qP_len (P : List C2) : (qP P).length = P.length := by simp [qP]
theorem qP_zero {P : List C2} (h : 0 < P.length) : (qP P).getD 0 (0, 0) = addC (P.getD 0 (0, 0)) hw := set_at h
theorem qP_pos {P : List C2} {k : Nat} (h : 1 ≤ k) : (qP P).getD k (0, 0) = P.getD k (0, 0) := set_off (by omega)
theorem weighF_len (a b : List C2) (x y : C2) : (weighF a b x y).length = max a.length b.length := by simp [weighF]
theorem weighF_get {a b : List C2} {x y : C2} {k : Nat} (h : k < max a.length b.length) : (weighF a b x y).getD k (0, 0) = addC (mulC (a.getD k (0, 0)) x) (mulC (b.getD k (0, 0)) y) := by
  simp only [weighF, List.getD, List.getElem?_map, List.getElem?_range h, Option.map_some, Option.getD_some]
section
variable {ls : List C2} {X : Nat → Int × Int}
theorem DX.low (h : DX ls X) (h1 : 1 ≤ ls.length) (h4 : ls.length ≤ 4) : Gr ((rootsL (ls.map nc) ls.length).getD 0 (0, 0)) (2 * (cz X ls.length 0).1) (2 * (cz X ls.length 0).2) (3 * ls.length + 1) ∧
    Gr (addC ((rootsL (ls.map nc) ls.length).getD 0 (0, 0)) hw) (2 * (cz X ls.length 0).1 + ((2 ^ (3 * ls.length - 3) : Nat) : Int)) (2 * (cz X ls.length 0).2) (3 * ls.length + 1) ∧
    nz (2 * (cz X ls.length 0).1, 2 * (cz X ls.length 0).2) + (((2 ^ (3 * ls.length - 3) : Nat) : Int)).natAbs < 2 ^ 21 := by
  have g := (roots_exact h.b h4 h.g).1 0
  rw [catF_in] at g
  have a := (g.lift 1).cast (c := 2 * (cz X ls.length 0).1) (d := 2 * (cz X ls.length 0).2) (by omega) (by omega)
  rw [show 3 * (ls.length - 0) + 1 = 3 * ls.length + 1 by omega] at a
  have b := (hw_gr.lift (3 * ls.length - 3)).cast (c := ((2 ^ (3 * ls.length - 3) : Nat) : Int)) (d := 0) (by rw [Int.one_mul]; simp) (by omega)
  rw [show 4 + (3 * ls.length - 3) = 3 * ls.length + 1 by omega] at b
  have bd := cz_bd X h.b ls.length 0
  have bl := bz_lt ls.length (by omega) 0 (by omega)
  have e2 : 2 ^ (3 * ls.length - 3) ≤ 512 := Nat.le_trans (Nat.pow_le_pow_right (by decide) (by omega : 3 * ls.length - 3 ≤ 9)) (by decide)
  have n2 : nz (2 * (cz X ls.length 0).1, 2 * (cz X ls.length 0).2) = 2 * nz (cz X ls.length 0) := by unfold nz; simp only [Int.natAbs_mul]; show 2 * _ + 2 * _ = _; omega
  have n3 : nz (((2 ^ (3 * ls.length - 3) : Nat) : Int), 0) = 2 ^ (3 * ls.length - 3) := by unfold nz; simp only [Int.natAbs_natCast]; rfl
  generalize 2 ^ (3 * ls.length - 3) = s at *
  refine ⟨a, ?_, by rw [n2, Int.natAbs_natCast]; omega⟩
  have c := Gr.addB (u := (2 * (cz X ls.length 0).1, 2 * (cz X ls.length 0).2)) (v := ((s : Int), 0)) a b (by rw [n2, n3]; omega) (by omega)
  exact c.cast rfl (by show 2 * (cz X ls.length 0).2 + 0 = _; omega)
theorem low_val {n k : Nat} (h1 : 1 ≤ n) {w : C2} (g : Gr w (4 * (2 * (cz X n 0).1) + (k : Int) * ((2 ^ (3 * n - 3) : Nat) : Int)) (4 * (2 * (cz X n 0).2)) (3 * n + 1 + 2)) : cv w = cq X n 0 + hk k := by
  have hp : p2 (3 * (((0 : Nat) : Int) - (n : Int))) = 8 * p2 (-((3 * n + 1 + 2 : Nat) : Int)) := by
    rw [show (8 : Rat) = p2 3 by decide +kernel, ← p2_add]; congr 1; omega
  have hs : ((2 ^ (3 * n - 3) : Nat) : Rat) * p2 (-((3 * n + 1 + 2 : Nat) : Int)) = 1 / 64 := by
    rw [← p2_nat, ← p2_add, show (((3 * n - 3 : Nat) : Int) + -((3 * n + 1 + 2 : Nat) : Int)) = -6 by omega]; exact p2m6
  rw [g.2]
  unfold cq hk
  rw [hp]
  generalize p2 (-((3 * n + 1 + 2 : Nat) : Int)) = e at *
  generalize hS : 2 ^ (3 * n - 3) = s at *
  refine q2e ?_ ?_
  · show ((4 * (2 * (cz X n 0).1) + (k : Int) * (s : Int) : Int) : Rat) * e = ((cz X n 0).1 : Rat) * (8 * e) + (k : Rat) * (1 / 64)
    rw [Rat.intCast_add, Rat.intCast_mul, Rat.intCast_mul, Rat.intCast_mul, Rat.intCast_natCast, Rat.intCast_natCast, ← hs]
    have a4 : ((4 : Int) : Rat) = 4 := rfl
    have a2 : ((2 : Int) : Rat) = 2 := rfl
    rw [a4, a2]; grind
  · show ((4 * (2 * (cz X n 0).2) : Int) : Rat) * e = ((cz X n 0).2 : Rat) * (8 * e) + 0
    rw [Rat.intCast_mul, Rat.intCast_mul]
    have a4 : ((4 : Int) : Rat) = 4 := rfl
    have a2 : ((2 : Int) : Rat) = 2 := rfl
    rw [a4, a2]; grind
theorem low_bound {n k : Nat} (h1 : 1 ≤ n) (h4 : n ≤ 4) (hk5 : k < 5) (hX : ∀ j, j < n → nz (X j) ≤ nb j) : N (cq X n 0 + hk k) ≤ 9 ∨ n = 4 ∧ N (cq X n 0 + hk k) ≤ 24 := by
  have a := N_add (cq X n 0) (hk k)
  have b : N (hk k) ≤ 1 / 16 := by
    have : ∀ k : Nat, k < 5 → N (hk k) ≤ 1 / 16 := by decide +kernel
    exact this k hk5
  have c : N (cq X n 0) = ((nz (cz X n 0) : Nat) : Rat) * p2 (3 * (((0 : Nat) : Int) - (n : Int))) := nS_pure _ (Rat.le_of_lt (p2_pos _)) (by unfold nz; omega)
  have d := cz_bt hX n 0 (Nat.le_refl _)
  have e : ((nz (cz X n 0) : Nat) : Rat) * p2 (3 * (((0 : Nat) : Int) - (n : Int))) ≤ ((bt n 0 : Nat) : Rat) * p2 (3 * (((0 : Nat) : Int) - (n : Int))) := Rat.mul_le_mul_of_nonneg_right (by exact_mod_cast d) (Rat.le_of_lt (p2_pos _))
  have t : ∀ n : Nat, n < 5 → 1 ≤ n → (((bt n 0 : Nat) : Rat) * p2 (3 * (((0 : Nat) : Int) - (n : Int))) + 1 / 16 ≤ 9 ∨ n = 4 ∧ ((bt n 0 : Nat) : Rat) * p2 (3 * (((0 : Nat) : Int) - (n : Int))) + 1 / 16 ≤ 24) := by decide +kernel
  rcases t n (by omega) h1 with u | ⟨u1', u⟩
  · left; grind
  · right; exact ⟨u1', by grind⟩
/-- The polynomials between. -/
theorem DX.weigh (h : DX ls X) (h1 : 1 ≤ ls.length) (h4 : ls.length ≤ 4) {k : Nat} (hk5 : k < 5) :
    safeWeigh (rootsL (ls.map nc) ls.length) (qP (rootsL (ls.map nc) ls.length)) (wx k, 0) (wt k, 0) ∧
    HPo (weighF (rootsL (ls.map nc) ls.length) (qP (rootsL (ls.map nc) ls.length)) (wx k, 0) (wt k, 0)) X ls.length (hk k) := by
  obtain ⟨l1, l2, l3⟩ := h.low h1 h4
  have hX : ∀ j, j < ls.length → nz (X j) ≤ nb j := fun j hj => nb_ok h h4 hj
  have T := fun j => (roots_exact h.b h4 h.g).1 j
  have lP := rootsL_length (ls.map nc) ls.length
  simp only [catF_in] at T
  generalize rootsL (ls.map nc) ls.length = P at *
  have lq := qP_len P
  have W0 := weigh_one (k := k) (u := (2 * (cz X ls.length 0).1, 2 * (cz X ls.length 0).2)) (s := ((2 ^ (3 * ls.length - 3) : Nat) : Int)) l1 l2 (Int.natCast_nonneg _) l3 (by omega) hk5
  have W : ∀ j : Nat, 1 ≤ j → fit2 (timesF (P.getD j (0, 0)) (wx k, 0)) ∧ fit2 (timesF (P.getD j (0, 0)) (wt k, 0)) ∧ Gr (addC (mulC (P.getD j (0, 0)) (wx k, 0)) (mulC (P.getD j (0, 0)) (wt k, 0))) (cz X ls.length j).1 (cz X ls.length j).2 (3 * (ls.length - j)) := by
    intro j hj
    have bd : nz (cz X ls.length j) < 2 ^ 19 := by
      by_cases hl : j < 6
      · exact Nat.lt_of_le_of_lt (cz_bd X h.b _ j) (bz_lt _ (by omega) j hl)
      · rw [cz_over X _ j (by omega)]; decide
    obtain ⟨a, b, c⟩ := weigh_one (k := k) (s := 0) (u := cz X ls.length j) (T j) ((T j).cast (by omega) rfl) (by omega) (by omega) (by omega) hk5
    exact ⟨a, b, Gr.low (m := 2) (c.cast (by omega) (by omega))⟩
  refine ⟨fun j hj => ?_, ?_, ?_, ?_, ?_, fun j a b => ?_⟩
  · by_cases h0 : j = 0
    · subst h0; rw [qP_zero (by omega)]; exact ⟨W0.1, W0.2.1⟩
    · rw [qP_pos (by omega)]; exact ⟨(W j (by omega)).1, (W j (by omega)).2.1⟩
  · rw [weighF_len, lq, lP, Nat.max_self]
  · rw [weighF_get (by omega), qP_zero (by omega)]; exact W0.2.2.1
  · rw [weighF_get (by omega), qP_zero (by omega)]; exact low_val h1 W0.2.2
  · rw [weighF_get (by omega), qP_zero (by omega), low_val h1 W0.2.2]; exact low_bound h1 h4 hk5 hX
  · rw [weighF_get (by omega), qP_pos a]
    exact (W j a).2.2.cast (by simp) (by simp)
/-- The second polynomial's terms. -/
theorem DX.second (h : DX ls X) (h1 : 1 ≤ ls.length) (h4 : ls.length ≤ 4) : HPo (qP (rootsL (ls.map nc) ls.length)) X ls.length (hk 4) := by
  obtain ⟨l1, l2, l3⟩ := h.low h1 h4
  have hX : ∀ j, j < ls.length → nz (X j) ≤ nb j := fun j hj => nb_ok h h4 hj
  have lP := rootsL_length (ls.map nc) ls.length
  have tk := fun k => h.tk h4 k
  generalize rootsL (ls.map nc) ls.length = P at *
  have e : cv (addC (P.getD 0 (0, 0)) hw) = cq X ls.length 0 + hk 4 := low_val h1 (k := 4) ((l2.lift 2).cast (by omega) (by omega))
  refine ⟨by rw [qP_len, lP], ?_, ?_, ?_, fun j a b => ?_⟩
  · rw [qP_zero (by omega)]; exact l2.1
  · rw [qP_zero (by omega)]; exact e
  · rw [qP_zero (by omega), e]; exact low_bound h1 h4 (by decide) hX
  · rw [qP_pos a]; exact tk j
theorem HPo.full {F : List C2} {n : Nat} {h : Q2} (H : HPo F X n h) (h1 : 1 ≤ n) : polyF F = (F, true) := by
  obtain ⟨t1, t2⟩ := (H.t n h1 (Nat.le_refl _)).top (by decide)
  refine (poly_of (F := F) (by have := H.l; omega) ?_ (by rw [H.l]; exact t2)).2
  rw [List.all_eq_true]
  intro x hx
  obtain ⟨i, hi, rfl⟩ := List.getElem_of_mem hx
  have e : F.getD i (0, 0) = F[i] := by simp [List.getD, hi]
  rw [← e]
  by_cases h0 : i = 0
  · subst h0; exact (fC_iff _).1 H.f0
  · exact (H.t i (by omega) (by have := H.l; omega)).fin
end
end Go.Proofs.YtfnhddaofllniaaGreat

/- Sums of polynomials, weighed, of both. Conditions: valid polynomials of at most 17 terms, in lists apart; finite weights; what is narrowed fits float32; the sum is valid. -/
namespace Go.Proofs.YtfnhddaofllniaaGreat
set_option linter.unusedSimpArgs false
set_option linter.unusedVariables false
open Go Go.RowKit

theorem termAt_impl (v : Value) (rs : List C2) (k : Nat) (w : World) (hv : RdV w v (cx rs)) (hl : rs.length ≤ 1000) (h1 : k ≤ 1000) :
    Calls Tryz.prog 31 #[v, .int .i64 (k : Int)] w fun e w' => e = .returned (.complex .f32 (rs.getD k (0, 0)).1 (rs.getD k (0, 0)).2) ∧ w = w' := by
  by_cases k1 : rs.length ≤ k
  · obtain ⟨ao, cap, rfl, _⟩ := hv.shape
    rw [cx_length, show rs.getD k (0, 0) = (0, 0) by rw [List.getD, List.getElem?_eq_none (by omega)]; rfl]
    have j0 : ¬ ((k : Int) < 0) := by omega
    have j1 : (rs.length : Int) ≤ (k : Int) := by omega
    clear hv
    go_enter Tryz.func31, Tryz.ntmps31
    go_wp2
    go_ret
    exact ⟨rfl, rfl⟩
  · rcases hv.openC with ⟨rfl, _⟩ | ⟨b, off, cap, rfl, hb, hcp, hc⟩
    · exact absurd k1 (by simp)
    · have c1 := hc k (by omega)
      rw [show rs.getD k (0, 0) = rs[k]'(by omega) by simp [List.getD, show k < rs.length by omega]]
      have j0 : ¬ ((k : Int) < 0) := by omega
      have j1 : ¬ ((rs.length : Int) ≤ (k : Int)) := by omega
      clear hc hv
      generalize (rs[k]'(by omega)) = x at *
      obtain ⟨x1, x2⟩ := x
      go_enter Tryz.func31, Tryz.ntmps31
      go_wp2
      go_ret
      exact ⟨rfl, rfl⟩
theorem termN_spec (v : Value) (rs : List C2) (k : Nat) (w : World) (hv : RdV w v (cx rs)) (hl : rs.length ≤ 1000) (h1 : k ≤ 1000) :
    Calls Tryz.prog 73 #[v, .int .i64 (k : Int)] w fun e w' => e = .returned (.complex .f32 (rs.getD k (0, 0)).1 (rs.getD k (0, 0)).2) ∧ w = w' := by
  have := term_spec v rs (k : Int) w hv hl (by omega) (by omega)
  rwa [catF_in] at this
theorem two_spec (p q : Nat) (va vb : Value) (ps bs : List C2) (w : World) (hp : w.cell? ⟨p, 0, none⟩ = some va) (hq : w.cell? ⟨q, 0, none⟩ = some vb) (ha : RdV w va (cx ps)) (hb : RdV w vb (cx bs)) (h1 : 1 ≤ ps.length) (h2 : ps.length ≤ 17) (h3 : 1 ≤ bs.length) (h4 : bs.length ≤ 17)
    (hva : validF (ps.map nc) = true) (hvb : validF (bs.map nc) = true) : Calls Tryz.prog 99 #[.pointer (some ⟨p, 0, none⟩), .pointer (some ⟨q, 0, none⟩)] w (RetB true w) := by
  have A := Lib.hid (fun n => is_spec p va ps (w.drewN n) hp (ha.below (below_drewN (Below.refl _ _) n)) h1 h2)
  have B := Lib.hid (fun n => is_spec q vb bs (w.drewN n) hq (hb.below (below_drewN (Below.refl _ _) n)) h3 h4)
  have V1 := Lib.hid hva
  have V2 := Lib.hid hvb
  clear hp hq ha hb hva hvb
  go_enter Tryz.func99, Tryz.ntmps99
  go_wp2_with fail
  refine (A.out 0).mono ?_
  rintro e w' ⟨m1, rfl, rfl⟩
  rw [V1.out]
  go_wp2_with fail
  refine (B.out _).mono ?_
  rintro e w' ⟨m2, rfl, rfl⟩
  rw [V2.out]
  go_wp2_with fail
  go_ret
  exact ⟨_, rfl, by first | rfl | (simp; rfl)⟩
/-- Three boxes. -/
theorem boxes3 (w : World) (a b c : Value) (t : TypeId) {W3 : World} (h : (((w.alloc (.cells #[a] t)).alloc (.cells #[b] t)).alloc (.cells #[c] t)) = W3) : W3.heap.size = w.heap.size + 3 ∧ Below w.heap.size w W3 ∧ W3.cell? ⟨w.heap.size, 0, none⟩ = some a ∧ W3.cell? ⟨w.heap.size + 1, 0, none⟩ = some b ∧ W3.cell? ⟨w.heap.size + 1 + 1, 0, none⟩ = some c ∧ W3.frozen? ⟨w.heap.size + 1 + 1, 0, none⟩ = false := by
  subst h
  refine ⟨by simp, by (repeat' (first | (with_reducible exact Below.refl _ _) | (with_reducible assumption) | (with_reducible refine Below.alloc ?_ ?_ _) | (with_reducible refine Below.setCell ?_ ?_ _) | (with_reducible refine Below.drew ?_) | (with_reducible refine Below.via (by assumption) ?_ ?_) | go_size)), ?_, ?_, ?_, ?_⟩ <;> (go_simp; try rfl)
theorem weigh_succ (ps bs : List C2) (x y : C2) (k : Nat) : (List.range (k + 1)).map (fun k => addC (mulC (ps.getD k (0, 0)) x) (mulC (bs.getD k (0, 0)) y)) = (List.range k).map (fun k => addC (mulC (ps.getD k (0, 0)) x) (mulC (bs.getD k (0, 0)) y)) ++ [addC (mulC (ps.getD k (0, 0)) x) (mulC (bs.getD k (0, 0)) y)] := by simp [List.range_succ]
/-- The calls of the region. -/
def GW (ft fm fp : FuncId) (va vb : Value) (A B : C2) (k : Nat) (f : FuncId) (args : Array Value) (u : Value) : Prop :=
  (f = ft ∧ ((args = #[va, .int .i64 (k : Int)] ∧ u = .complex .f32 A.1 A.2) ∨ (args = #[vb, .int .i64 (k : Int)] ∧ u = .complex .f32 B.1 B.2))) ∨
  (f = fm ∧ ∃ p q a b, args = #[.complex .f32 p.1 p.2, .complex .f32 q.1 q.2] ∧ u = .complex .f32 a b ∧ nc (a, b) = mulC (nc p) (nc q)) ∨
  (f = fp ∧ ∃ p q a b, args = #[.complex .f32 p.1 p.2, .complex .f32 q.1 q.2] ∧ u = .complex .f32 a b ∧ nc (a, b) = addC (nc p) (nc q))
section
variable {ft fm fp : FuncId} {va vb : Value} {A B : C2} {k : Nat} {u : Value}
theorem GW.fst (h : GW ft fm fp va vb A B k ft #[va, .int .i64 (k : Int)] u) (n1 : ft ≠ fm) (n2 : ft ≠ fp) (hne : va ≠ vb) : u = .complex .f32 A.1 A.2 := by
  rcases h with ⟨_, h⟩ | ⟨h, _⟩ | ⟨h, _⟩
  · rcases h with ⟨_, h⟩ | ⟨h, _⟩
    · exact h
    · simp only [Array.mk.injEq, List.cons.injEq] at h; exact absurd h.1 hne
  · exact absurd h n1
  · exact absurd h n2
theorem GW.snd (h : GW ft fm fp va vb A B k ft #[vb, .int .i64 (k : Int)] u) (n1 : ft ≠ fm) (n2 : ft ≠ fp) (hne : va ≠ vb) : u = .complex .f32 B.1 B.2 := by
  rcases h with ⟨_, h⟩ | ⟨h, _⟩ | ⟨h, _⟩
  · rcases h with ⟨h, _⟩ | ⟨_, h⟩
    · simp only [Array.mk.injEq, List.cons.injEq] at h; exact absurd h.1.symm hne
    · exact h
  · exact absurd h n1
  · exact absurd h n2
theorem GW.mul {p q : C2} (h : GW ft fm fp va vb A B k fm #[.complex .f32 p.1 p.2, .complex .f32 q.1 q.2] u) (n1 : ft ≠ fm) (n3 : fm ≠ fp) : ∃ a b, u = .complex .f32 a b ∧ nc (a, b) = mulC (nc p) (nc q) := by
  rcases h with ⟨h, _⟩ | ⟨_, p', q', a, b, h, hu, hn⟩ | ⟨h, _⟩
  · exact absurd h.symm n1
  · simp only [Array.mk.injEq, List.cons.injEq, Value.complex.injEq, true_and, and_true] at h
    obtain ⟨⟨h1, h2⟩, h3, h4⟩ := h
    exact ⟨a, b, hu, by rw [hn, ← show p = p' from Prod.ext h1 h2, ← show q = q' from Prod.ext h3 h4]⟩
  · exact absurd h n3
theorem GW.add {p q : C2} (h : GW ft fm fp va vb A B k fp #[.complex .f32 p.1 p.2, .complex .f32 q.1 q.2] u) (n2 : ft ≠ fp) (n3 : fm ≠ fp) : ∃ a b, u = .complex .f32 a b ∧ nc (a, b) = addC (nc p) (nc q) := by
  rcases h with ⟨h, _⟩ | ⟨h, _⟩ | ⟨_, p', q', a, b, h, hu, hn⟩
  · exact absurd h.symm n2
  · exact absurd h.symm n3
  · simp only [Array.mk.injEq, List.cons.injEq, Value.complex.injEq, true_and, and_true] at h
    obtain ⟨⟨h1, h2⟩, h3, h4⟩ := h
    exact ⟨a, b, hu, by rw [hn, ← show p = p' from Prod.ext h1 h2, ← show q = q' from Prod.ext h3 h4]⟩
end
end Go.Proofs.YtfnhddaofllniaaGreat

/- Own lists of complex numbers, their cells; boxes that are set. Conditions: none. -/
namespace Go.Proofs.YtfnhddaofllniaaGreat
set_option linter.unusedSimpArgs false
set_option linter.unusedVariables false
open Go Go.RowKit

theorem cx_set (rs : List C2) (k a b : Nat) : (cx rs).set k (.complex .f32 a b) = cx (rs.set k (a, b)) := by simp [cx, List.map_set, cxv]
theorem map_set_nc (rs : List C2) (k : Nat) (x : C2) : (rs.set k x).map nc = (rs.map nc).set k (nc x) := by simp [List.map_set]
theorem own_cell {w : World} {B g n cap : Nat} {rs : List C2} (h : OwV 32 w B (.slice (some ⟨g, 0, none⟩) n cap) (cx rs)) {i : Nat} (hi : i < rs.length) :
    w.cell? ⟨g, i, none⟩ = some (.complex .f32 (rs.getD i (0, 0)).1 (rs.getD i (0, 0)).2) ∧ w.frozen? ⟨g, i, none⟩ = false ∧ g < w.heap.size := by
  obtain ⟨g', cap', e, _, h2, _, _, h3, h4⟩ := h.open (by rw [← List.length_pos_iff, cx_length]; omega)
  injection e with e1 e2 e3
  injection e1 with e1
  injection e1 with e1
  subst e1
  refine ⟨?_, h4 i, h2⟩
  rw [h3 i (by rw [cx_length]; exact hi), cx_get hi]
  simp [List.getD, hi, cxv]
theorem keep2 {w w' : World} {a b : Addr} {u v : Value} (hb : Below w.heap.size w w') (h : w.cell? a = some u ∧ w.cell? b = some v) : w'.cell? a = some u ∧ w'.cell? b = some v :=
  ⟨(hb.cell (World.block_lt_of_cell? _ _ h.1)).trans h.1, (hb.cell (World.block_lt_of_cell? _ _ h.2)).trans h.2⟩
theorem cellZ {w : World} {g k : Nat} {u : Value} (h : k ≠ g) : (w.setCell ⟨g, 0, none⟩ u).cell? ⟨k, 0, none⟩ = w.cell? ⟨k, 0, none⟩ := World.cell?_of_block (w := w) (Below.heap_setCell _ _ _ _ h)
theorem frozenZ {w : World} {g k : Nat} {u : Value} (h : k ≠ g) : (w.setCell ⟨g, 0, none⟩ u).frozen? ⟨k, 0, none⟩ = w.frozen? ⟨k, 0, none⟩ := World.frozen?_of_block (w := w) (Below.heap_setCell _ _ _ _ h)
theorem cellI {w : World} {g i k o : Nat} {u : Value} (h : k ≠ g) : (w.setCell ⟨g, i, none⟩ u).cell? ⟨k, o, none⟩ = w.cell? ⟨k, o, none⟩ := World.cell?_of_block (w := w) (Below.heap_setCell _ _ _ _ h)
theorem own_set {e : TypeId} {w : World} {B g j : Nat} {v : Value} {xs : List Value} (h : OwV e w B v xs) (hg : g < B) (u : Value) : OwV e (w.setCell ⟨g, j, none⟩ u) B v xs := h.setOther (by
  cases hq : v.ownBlock with
  | none => exact .inl rfl
  | some q => right; intro e; cases e; have := h.lt _ hq; omega) u
theorem setCell_self {w : World} {g : Nat} {a : Value} (h : w.cell? ⟨g, 0, none⟩ = some a) (u : Value) : (w.setCell ⟨g, 0, none⟩ u).cell? ⟨g, 0, none⟩ = some u := by
  have hh : ∃ x, w.cell? ⟨g, 0, none⟩ = some x := ⟨_, h⟩
  simp [go_sem, h]
end Go.Proofs.YtfnhddaofllniaaGreat

/- Small walks for roots that are followed: degrees, clones, whether a list has as many numbers as a polynomial roots. Conditions: a polynomial with roots, finite numbers. -/
namespace Go.Proofs.YtfnhddaofllniaaGreat
set_option linter.unusedSimpArgs false
set_option linter.unusedVariables false
open Go Go.RowKit

/-- A new list and true. -/
def RetLB (F : List C2) (w : World) (e : Ending) (w' : World) : Prop := ∃ v qs, e = .returned (.tuple #[v, .bool true]) ∧ qs.map nc = F ∧ OwV 32 w' w.heap.size v (cx qs) ∧ Below w.heap.size w w'
theorem upon_fop {P : Program} {o : Oper} {a : Act} {next : Act → World → Prop} {Q : Exit → Act → World → Prop} {w : World} (op : BinOp) (hop : isArith op = true) (t : TypeId) (k : FloatKind) (x y : Nat)
    (h : ∀ r n, nrm k r = fop op k (nrm k x) (nrm k y) → next (a.put o.dst (.float k r)) (w.drewN n)) :
    Oper.upon P o a next Q (((binOp op t (.float k x) (.float k y)).run P w).andThen fun v w' => .ok (.value v) w') := by
  obtain ⟨r, n, hrun, hr⟩ := run_fop (P := P) w op hop t k x y
  rw [hrun]
  exact h r n hr
theorem degree_impl (v : Value) (rs : List C2) (n : Nat) (w : World) (hv : RdV w v (cx rs)) (hn : rs.length = n + 1) (h2 : n ≤ 16) : Calls Tryz.prog 32 #[.agg #[v]] w fun e w' => e = .returned (.int .i64 (n : Int)) ∧ Below w.heap.size w w' := by
  obtain ⟨ao, cap, rfl, _⟩ := hv.shape
  rw [cx_length, hn] at hv ⊢
  clear hv
  have e : IntKind.i64.wrap (((n + 1 : Nat) : Int) - 1) = (n : Int) := by rw [show ((n + 1 : Nat) : Int) - 1 = (n : Int) by omega]; exact IntWalk.i64_in _ ⟨by omega, by omega⟩
  go_enter Tryz.func32, Tryz.ntmps32
  go_wp2_with fail
  go_ret
  exact ⟨by first | rfl | (rw [e]) | (simp [e]), (Below.refl _ _).alloc (Nat.le_refl _) _⟩
theorem clone_impl (v : Value) (ls : List C2) (w : World) (hv : RdV w v (cx ls)) (h1 : 1 ≤ ls.length) (h2 : ls.length ≤ 16) :
    Calls Tryz.prog 63 #[v] w fun e w' => ∃ v', e = .returned v' ∧ OwV 32 w' w.heap.size v' (cx ls) ∧ Below w.heap.size w w' := by
  have hn : cx ls ≠ [] := by rw [← List.length_pos_iff, cx_length]; exact h1
  obtain ⟨b, off, cap, rfl, hb, _, hc⟩ := hv.open hn
  rw [cx_length] at hv ⊢
  have Hv := Lib.hid hv
  clear hv hc
  have e1 := fun w1 : World => Lib.run_eql_slice_nil (P := Tryz.prog) w1 25 32 (some ⟨b, off, none⟩) ls.length cap 0 0 Tryz.underlying25
  go_enter Tryz.func63, Tryz.ntmps63
  go_wp2_with (at_builtin; go_must (refine wpList_cloneV (.complex .f32 0 0) 8 infoC rfl (cx_one ls) (by decide) rfl _ _ rfl Tryz.underlying25 Hv.out hn (by simp; omega) rfl rfl rfl ?_); intro g1 cap1 w1 hg1 ho1 hb1; rw [cx_length] at ho1 ⊢)
  go_ret
  exact ⟨_, rfl, ho1, hb1⟩
set_option maxRecDepth 100000 in
set_option maxHeartbeats 1000000 in
theorem areAll_impl (v u : Value) (rs ls : List C2) (n : Nat) (w : World) (hv : RdV w v (cx rs)) (hu : RdV w u (cx ls)) (hn : rs.length = n + 1) (hl : ls.length = n) (h1 : 1 ≤ n) (h2 : n ≤ 16) (hr : rootedF (rs.map nc) = true) (hf : allFinC ls = true) :
    Calls Tryz.prog 62 #[.agg #[v], u] w (RB true w) := by
  obtain ⟨ao, acap, rfl, _⟩ := hv.shape
  obtain ⟨bo, bcap, rfl, _⟩ := hu.shape
  rw [cx_length, hn] at hv ⊢
  rw [cx_length, hl] at hu ⊢
  have Hv := Lib.hid hv
  have Hu := Lib.hid hu
  have HR := Lib.hid hr
  have HF := Lib.hid hf
  have HN := Lib.hid hn
  have HL := Lib.hid hl
  clear hv hu hr hf hn hl
  go_enter Tryz.func62, Tryz.ntmps62
  go_wp2_with fail
  (go_at_call 27; ((with_reducible refine (rooted_impl _ rs _ (Hv.out.below ((Below.refl _ _).alloc (Nat.le_refl _) _)) (by have := HN.out; omega) (by have := HN.out; omega)).mono ?_); rintro e w1 ⟨rfl, hb1⟩; rw [HR.out]))
  have c1 := (hb1.cell (p := ⟨w.heap.size, 0, none⟩) (by simp)).trans (World.cell?_alloc_new w #[.slice ao (n + 1) acap] 28 0)
  have B1 := Lib.hid (((Below.refl _ _).alloc (Nat.le_refl _) _).trans (hb1.mono (by simp)))
  have s1 := B1.out.size
  have z1 : w.heap.size < w1.heap.size := by have := hb1.size; simp at this; omega
  clear hb1
  go_wp2_with fail
  (go_at_call 66; ((with_reducible refine (areRoots_impl _ ls _ (Hu.out.below B1.out) (by have := HL.out; omega) (by have := HL.out; omega)).mono ?_); rintro e w2 ⟨rfl, hb2⟩; rw [HF.out]))
  have c2 : w2.cell? ⟨w.heap.size, 0, none⟩ = some (.slice ao (n + 1) acap) := (hb2.cell (p := ⟨w.heap.size, 0, none⟩) z1).trans c1
  have B2 := Lib.hid (B1.out.trans (hb2.mono s1))
  clear hb2 c1
  go_wp2_with fail
  (go_at_call 32; ((with_reducible refine (degree_impl _ rs n _ (Hv.out.below B2.out) HN.out h2).mono ?_); rintro e w3 ⟨rfl, hb3⟩))
  go_wp2_with fail
  go_ret
  exact ⟨by first | rfl | simp, B2.out.trans (hb3.mono B2.out.size)⟩
set_option maxRecDepth 100000 in
set_option maxHeartbeats 1000000 in
theorem all_spec (p : Nat) (v u : Value) (rs ls : List C2) (n : Nat) (w : World) (hp : w.cell? ⟨p, 0, none⟩ = some v) (hv : RdV w v (cx rs)) (hu : RdV w u (cx ls)) (hn : rs.length = n + 1) (hl : ls.length = n) (h1 : 1 ≤ n) (h2 : n ≤ 16) (hr : rootedF (rs.map nc) = true) (hf : allFinC ls = true) :
    Calls Tryz.prog 58 #[.pointer (some ⟨p, 0, none⟩), u] w (RetB true w) := by
  obtain ⟨ao, acap, rfl, _⟩ := hv.shape
  obtain ⟨bo, bcap, rfl, _⟩ := hu.shape
  rw [cx_length, hn] at hv hp
  rw [cx_length, hl] at hu ⊢
  have Hv := Lib.hid hv
  have Hu := Lib.hid hu
  have HR := Lib.hid hr
  have HF := Lib.hid hf
  have HN := Lib.hid hn
  have HL := Lib.hid hl
  have e : IntKind.i64.wrap (((n + 1 : Nat) : Int) - 1) = (n : Int) := by rw [show ((n + 1 : Nat) : Int) - 1 = (n : Int) by omega]; exact IntWalk.i64_in _ ⟨by omega, by omega⟩
  have e2 : IntKind.i64.wrap ((n : Int) + 1 - 1) = (n : Int) := by rw [show ((n : Int) + 1 - 1) = (n : Int) by omega]; exact IntWalk.i64_in _ ⟨by omega, by omega⟩
  clear hv hu hr hf hn hl
  go_enter Tryz.func58, Tryz.ntmps58
  go_wp2_with fail
  (go_at_call 35; ((with_reducible refine (rooted_spec p _ rs _ hp Hv.out (by have := HN.out; omega) (by have := HN.out; omega)).mono ?_); rintro e w1 ⟨m1, rfl, rfl⟩; rw [HR.out]))
  have hu1 := Hu.out.below (drewN_below w m1)
  go_wp2_with fail
  (go_at_call 68; ((with_reducible refine (list_spec _ ls _ hu1 (by have := HL.out; omega) (by have := HL.out; omega)).mono ?_); rintro e w2 ⟨m2, rfl, rfl⟩; rw [HF.out]))
  clear hu1
  go_wp2_with fail
  go_ret
  exact ⟨_, by first | rfl | simp, by first | rfl | (simp; rfl)⟩
end Go.Proofs.YtfnhddaofllniaaGreat

/- Products of lists of terms, of the reference. Conditions: lists of 1 to 17 terms; what is narrowed fits float32. -/
namespace Go.Proofs.YtfnhddaofllniaaGreat
open Go Go.RowKit
set_option linter.unusedSimpArgs false
set_option linter.unusedVariables false

/-- The first i products of a term of the product. -/
def accF (F G : List C2) (k : Nat) : Nat → C2
  | 0 => (0, 0)
  | i + 1 => if i ≤ k ∧ k < G.length + i then addC (accF F G k i) (mulC (F.getD i (0, 0)) (G.getD (k - i) (0, 0))) else accF F G k i
def prodF (F G : List C2) : List C2 := (List.range (F.length + G.length - 1)).map fun k => accF F G k F.length
def safeProd (F G : List C2) : Prop := ∀ k i, i < F.length → i ≤ k → k < G.length + i → fit2 (timesF (F.getD i (0, 0)) (G.getD (k - i) (0, 0)))
theorem prod_succ (F G : List C2) (n k : Nat) : (List.range (k + 1)).map (fun k => accF F G k n) = (List.range k).map (fun k => accF F G k n) ++ [accF F G k n] := by simp [List.range_succ]
def GP (M : C2) (f : FuncId) (_ : Array Value) (u : Value) : Prop := ∃ a b, u = .complex .f32 a b ∧ nc (a, b) = M
set_option maxRecDepth 100000 in
set_option maxHeartbeats 4000000 in
theorem mulL_spec (va vb : Value) (fs gs : List C2) (w : World) (hv : RdV w va (cx fs)) (hu : RdV w vb (cx gs)) (h1 : 1 ≤ fs.length) (h2 : fs.length ≤ 17) (h3 : 1 ≤ gs.length) (h4 : gs.length ≤ 17) (Hs : RowKit.Hid (safeProd (fs.map nc) (gs.map nc)))
    (E : List C2) (HE : RowKit.Hid (prodF (fs.map nc) (gs.map nc) = E)) :
    Calls Tryz.prog 78 #[va, vb] w (RetCL E w) := by
  rcases hv.openC with ⟨rfl, _⟩ | ⟨b, off, cap, rfl, hb, hcp, hc⟩
  · simp at h1
  rcases hu.openC with ⟨rfl, _⟩ | ⟨d, doff, dcap, rfl, hd, hdp, hdc⟩
  · simp at h3
  have Hc := Lib.hid (show ∀ i, i < fs.length → w.cell? ⟨b, off + i, none⟩ = some (.complex .f32 (fs.getD i (0, 0)).1 (fs.getD i (0, 0)).2) from fun i hi => by
    rw [hc i hi]; simp [List.getD, hi])
  have Hd := Lib.hid (show ∀ i, i < gs.length → w.cell? ⟨d, doff + i, none⟩ = some (.complex .f32 (gs.getD i (0, 0)).1 (gs.getD i (0, 0)).2) from fun i hi => by
    rw [hdc i hi]; simp [List.getD, hi])
  have HN := Lib.hid (show prodF (fs.map nc) (gs.map nc) = (List.range (fs.length + gs.length - 1)).map (fun k => accF (fs.map nc) (gs.map nc) k fs.length) by unfold prodF; rw [List.length_map, List.length_map])
  have HLg := Lib.hid (show (gs.map nc).length = gs.length from List.length_map ..)
  have HLf := Lib.hid (show (fs.map nc).length = fs.length from List.length_map ..)
  have HGf := Lib.hid (fun i => getD_nc fs i)
  have HGg := Lib.hid (fun i => getD_nc gs i)
  have n0 := nrm0
  clear hc hdc hv hu hcp hdp
  generalize fs.map nc = F at *
  generalize gs.map nc = G at *
  generalize hn : fs.length = n at *
  generalize hm : gs.length = m at *
  have qm : IntKind.i64.wrap ((n : Int) + (m : Int)) = ((n + m : Nat) : Int) := by rw [IntWalk.i64_in _ ⟨by omega, by omega⟩]; omega
  have qm2 : IntKind.i64.wrap (((n + m : Nat) : Int) - 1) = ((n + m - 1 : Nat) : Int) := by rw [IntWalk.i64_in _ ⟨by omega, by omega⟩]; omega
  have qm3 : IntKind.i64.wrap ((n : Int) + (m : Int) - 1) = ((n + m - 1 : Nat) : Int) := by rw [IntWalk.i64_in _ ⟨by omega, by omega⟩]; omega
  generalize ht : n + m - 1 = t at *
  clear hn hm
  go_enter Tryz.func78, Tryz.ntmps78
  go_wp2
  go_loopw [5, 6] (fun ov iv wr => ∃ (k : Nat) (qs : List C2), k ≤ t ∧ iv = .int .i64 (k : Int) ∧ RowV 32 wr w.heap.size ov (cx qs) ∧ qs.map nc = (List.range k).map (fun k => accF F G k n) ∧ Below w.heap.size w wr) (fun _ iv _ => t - (intOf iv).toNat)
  case atStart => exact ⟨0, [], Nat.zero_le _, rfl, row_nil (Nat.le_refl _) _, rfl, by (repeat' (first | (with_reducible exact Below.refl _ _) | (with_reducible assumption) | (with_reducible refine Below.alloc ?_ ?_ _) | (with_reducible refine Below.setCell ?_ ?_ _) | (with_reducible refine Below.drew ?_) | (with_reducible refine Below.via (by assumption) ?_ ?_) | go_size))⟩
  case round =>
    obtain ⟨k, qs, hk, rfl, hrow, hqs, hbel⟩ := hrel
    have hsz := hbel.size
    have hql : qs.length = k := by have := congrArg List.length hqs; simpa using this
    by_cases hlt : k < t
    · have Hl := Lib.hid (show (cx qs).length ≤ 1099511627776 by simp; omega)
      have Hqs := Lib.hid hqs
      have Hb := Lib.hid hbel
      have Hrow := Lib.hid hrow
      have j0 : (0 : Int) ≤ (k : Int) := by omega
      have j1 : (k : Int) < (t : Int) := by omega
      clear hqs hbel hql hrow
      go_wp2_with fail
      go_loopw [7, 8] (fun sv iv wi => ∃ (i mm s1 s2 : Nat), i ≤ n ∧ iv = .int .i64 (i : Int) ∧ sv = .complex .f32 s1 s2 ∧ nc (s1, s2) = accF F G k i ∧ wi = wr.drewN mm) (fun _ iv _ => n - (intOf iv).toNat)
      case atStart => exact ⟨0, 0, 0, 0, Nat.zero_le _, rfl, rfl, nc0, rfl⟩
      case round =>
        obtain ⟨i, mm, s1, s2, hi, rfl, rfl, hs, rfl⟩ := hrel
        have HSS := Lib.hid hs
        clear hs
        by_cases hin : i < n
        · have c1 : wr.cell? ⟨b, off + i, none⟩ = some (.complex .f32 (fs.getD i (0, 0)).1 (fs.getD i (0, 0)).2) := (Hb.out.cell (p := ⟨b, off + i, none⟩) hb).trans (Hc.out i hin)
          have k0 : (0 : Int) ≤ (i : Int) := by omega
          have k1 : (i : Int) < (n : Int) := by omega
          have qs1 : IntKind.i64.wrap ((k : Int) - (i : Int)) = (k : Int) - (i : Int) := IntWalk.i64_in _ ⟨by omega, by omega⟩
          by_cases hki : i ≤ k
          · by_cases hkm : k < m + i
            · obtain ⟨l, hl⟩ : ∃ l, k - i = l := ⟨_, rfl⟩
              have el : (k : Int) - (i : Int) = (l : Int) := by omega
              have HAC := Lib.hid (show accF F G k (i + 1) = addC (accF F G k i) (mulC (F.getD i (0, 0)) (G.getD l (0, 0))) by
                show (if i ≤ k ∧ k < G.length + i then _ else _) = _
                rw [if_pos ⟨hki, by rw [HLg.out]; exact hkm⟩, hl])
              have HF2 := Hs.out k i (by rw [HLf.out]; exact hin) hki (by rw [HLg.out]; exact hkm)
              rw [hl, HGf.out, HGg.out] at HF2
              have c2 : wr.cell? ⟨d, doff + l, none⟩ = some (.complex .f32 (gs.getD l (0, 0)).1 (gs.getD l (0, 0)).2) := (Hb.out.cell (p := ⟨d, doff + l, none⟩) hd).trans (Hd.out l (by omega))
              have Hx := Lib.hid (HGf.out i)
              have Hy := Lib.hid (HGg.out l)
              generalize fs.getD i (0, 0) = x at *
              generalize gs.getD l (0, 0) = y at *
              obtain ⟨x1, x2⟩ := x
              obtain ⟨y1, y2⟩ := y
              have Hf := Lib.hid HF2
              have l0 : (0 : Int) ≤ (l : Int) := by omega
              have l1 : (l : Int) < (m : Int) := by omega
              clear HF2
              rw [el] at qs1
              have g0 : (0 : Int) ≤ (k : Int) - (i : Int) := by omega
              have Hb' := Hb
              go_wp2_with fail
              refine wp_region_v 13 (GP (mulC (nc (x1, x2)) (nc (y1, y2)))) (by kernel_rfl) (by kernel_rfl) ?_
              simp only [List.take_succ_cons, List.take_zero, List.drop_succ_cons, List.drop_zero]
              repeat (apply wpV_det; (exact rfl); (intro nq; go_simp; rfl); (intro K hK; go_simp; refine hK.use ?_; clear hK K))
              (apply wpV_call; (exact rfl); (intro nq; go_simp; first | exact ⟨rfl, rfl⟩ | rfl); (intro nq; refine (mul_spec (x1, x2) (y1, y2) Hf _).mono ?_; rintro e w' ⟨a, b, m2, rfl, ha, hb, rfl⟩; exact ⟨_, rfl, ⟨a, b, rfl, Prod.ext ha hb⟩, nq + m2, by simp [Nat.add_assoc]⟩); (rintro u h); (obtain ⟨a1, b1, rfl, hM⟩ := h); (intro K hK; go_simp; refine hK.use ?_; clear hK K))
              repeat (apply wpV_det; (exact rfl); (intro nq; go_simp; rfl); (intro K hK; go_simp; refine hK.use ?_; clear hK K))
              (refine wpV_cadd .add (.inl rfl) _ _ _ _ rfl _ _ _ _ rfl rfl rfl ?_; intro g1 g2 hg1 hg2; (intro K hK; go_simp; refine hK.use ?_; clear hK K))
              have He := Lib.hid (show nc (g1, g2) = accF F G k (i + 1) by rw [HAC.out, Hx.out, Hy.out, ← hM, ← HSS.out]; exact Prod.ext hg1 hg2)
              clear hg1 hg2 hM
              repeat (apply wpV_det; (exact rfl); (intro nq; go_simp; rfl); (intro K hK; go_simp; refine hK.use ?_; clear hK K))
              refine wpV_nil (fun nq => ?_)
              (try refine wpList_nil ?_)
              clear c1 c2
              go_wp2_with fail
              go_roundw
              case rel => exact ⟨i + 1, _, g1, g2, by omega, by go_num, rfl, He.out, rfl⟩
              case measure => simp [intOf]; omega
            · have HAC := Lib.hid (show accF F G k (i + 1) = accF F G k i by
                show (if i ≤ k ∧ k < G.length + i then _ else _) = _
                rw [if_neg (by rw [HLg.out]; omega)])
              obtain ⟨l, hl⟩ : ∃ l, k - i = l := ⟨_, rfl⟩
              have el : (k : Int) - (i : Int) = (l : Int) := by omega
              have l0 : (0 : Int) ≤ (l : Int) := by omega
              have l1 : ¬ ((l : Int) < (m : Int)) := by omega
              rw [el] at qs1
              clear c1
              go_wp2_with fail
              go_roundw
              case rel => exact ⟨i + 1, mm, s1, s2, by omega, by go_num, rfl, by rw [HSS.out, HAC.out], rfl⟩
              case measure => simp [intOf]; omega
          · have HAC := Lib.hid (show accF F G k (i + 1) = accF F G k i by
              show (if i ≤ k ∧ k < G.length + i then _ else _) = _
              rw [if_neg (by omega)])
            have l0 : ¬ ((0 : Int) ≤ (k : Int) - (i : Int)) := by omega
            have l2 : (k : Int) - (i : Int) < 0 := by omega
            have l3 : ¬ ((i : Int) ≤ (k : Int)) := by omega
            clear c1
            go_wp2_with fail
            go_roundw
            case rel => exact ⟨i + 1, mm, s1, s2, by omega, by go_num, rfl, by rw [HSS.out, HAC.out], rfl⟩
            case measure => simp [intOf]; omega
        · obtain rfl : i = n := by omega
          have hrow := Hrow.out.below (drewN_below wr mm)
          have Hb2 := Lib.hid (below_drewN Hb.out mm)
          have hsz2 := Hb2.out.size
          go_wp2_with (at_builtin; go_must (refine wpList_pushV (.complex .f32 0 0) 8 hrow infoC rfl rfl (by decide) rfl _ _ rfl Tryz.underlying25 Hl.out (by omega) rfl rfl rfl rfl rfl rfl ?_); intro v1 w1 hr1 hb1 hg1 ho1)
          go_roundw
          case rel => exact ⟨k + 1, qs ++ [(s1, s2)], by omega, by go_num, by rw [← cx_push]; exact hr1, by rw [List.map_append, Hqs.out, prod_succ, ← HSS.out]; rfl, Hb2.out.trans hb1⟩
          case measure => simp [intOf]; omega
    · obtain rfl : k = t := by omega
      have Hq := Lib.hid (show qs.map nc = E by rw [hqs, ← HN.out]; exact HE.out)
      have Hb := Lib.hid hbel
      have Ho := Lib.hid hrow.own
      clear hqs hbel hrow
      go_wp2_with fail
      go_ret
      exact ⟨_, qs, rfl, Hq.out, Ho.out, Hb.out⟩
end Go.Proofs.YtfnhddaofllniaaGreat
