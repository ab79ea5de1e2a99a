/- Radii of roots, plainly: a stage of squaring and scaling. Conditions: bounded terms, a top term that is not too small. -/
import Derived.Test.YtfnhddaofllniaaGreatV25
namespace Go.Proofs.YtfnhddaofllniaaGreat
open Go
set_option linter.unusedSimpArgs false
set_option linter.unusedVariables false

theorem zero_no {z : C2} (hf : fC z) (h : 0 < N (cv z)) : zeroC z = false := by
  cases hz : zeroC z
  · rfl
  · rw [zero_val hf hz, show N zero2 = 0 by decide +kernel] at h
    exact absurd h (by decide)
theorem st1 {N l m k : Rat} (h1 : N * (7071 / 10000) * (1 - k) ≤ l) (h2 : l ≤ m) (hk : k ≤ 1 / 1000000) (hN : 0 ≤ N) : N ≤ 14143 / 10000 * m := by
  have := Rat.mul_le_mul_of_nonneg_left hk hN
  grind
theorem st2 {L l k m : Rat} (h1 : 7 / 10 * L * (1 - k) ≤ l) (h2 : l ≤ m) (hk : k ≤ 1 / 1000000) (hL : 0 ≤ L) : 69 / 100 * L ≤ m := by
  have := Rat.mul_le_mul_of_nonneg_left hk hL
  grind
theorem st3 {r q k e : Rat} (h1 : r ≤ q + (k * q + (e + e))) (h2 : q ≤ 14143 / 10000) (hk : k ≤ 1 / 1000000) (hk0 : 0 ≤ k) (he : e ≤ 1 / 1000000000) (hq : 0 ≤ q) : r ≤ 14145 / 10000 := by
  have := Rat.mul_le_mul_of_nonneg_right hk hq
  grind
theorem st4 {r q k e L : Rat} (h1 : q ≤ r + (k * q + (e + e))) (h2 : L ≤ q) (hk : k ≤ 1 / 1000000) (he : e ≤ 1 / 1000000000 * L) (hq : 0 ≤ q) : (1 - 1 / 100000) * L ≤ r := by
  have := Rat.mul_le_mul_of_nonneg_right hk hq
  grind
/-- A term, scaled. -/
theorem scaled {x : C2} {m : Nat} (hx : fC x) (hm : fN .f32 m = true) (h0 : 0 < vN .f32 m) (hN : N (cv x) ≤ 14143 / 10000 * vN .f32 m) :
    fC (fop .quo .f32 x.1 m, fop .quo .f32 x.2 m) ∧ N (cv (fop .quo .f32 x.1 m, fop .quo .f32 x.2 m)) ≤ 14145 / 10000 ∧
    ∀ L, p2 (-100) ≤ L → L * vN .f32 m ≤ N (cv x) → (1 - 1 / 100000) * L ≤ N (cv (fop .quo .f32 x.1 m, fop .quo .f32 x.2 m)) := by
  obtain ⟨i, hi⟩ : ∃ i : Rat, i * vN .f32 m = 1 := ⟨(vN .f32 m)⁻¹, Rat.inv_mul_cancel _ (by grind)⟩
  have i0 : 0 ≤ i := by
    rcases Rat.le_total (a := 0) (b := i) with h | h
    · exact h
    · have := Rat.mul_le_mul_of_nonneg_right h (Rat.le_of_lt h0)
      rw [hi] at this
      grind
  have hq : ∀ a : Nat, fN .f32 a = true → A (vN .f32 a) ≤ N (cv x) → fN .f32 (fop .quo .f32 a m) = true ∧ A (vN .f32 (fop .quo .f32 a m) - vN .f32 a * i) ≤ p2 (-23) * A (vN .f32 a * i) + p2 (-150) := by
    intro a ha hA
    refine fop_quo_ok32 ha hm (by grind) (q := vN .f32 a * i) (by rw [Rat.mul_assoc, hi, Rat.mul_one]) ?_
    rw [A_mul, A_of_nonneg i0]
    have a1 := Rat.mul_le_mul_of_nonneg_right (Rat.le_trans hA hN) i0
    have a2 : 14143 / 10000 * vN .f32 m * i = 14143 / 10000 := by grind
    rw [a2] at a1
    exact lt_of_p2 (a := 1) (Rat.le_trans a1 (by decide +kernel)) (by decide)
  obtain ⟨f1, g1⟩ := hq x.1 hx.1 (re_le_N (cv x))
  obtain ⟨f2, g2⟩ := hq x.2 hx.2 (im_le_N (cv x))
  have nq : A (vN .f32 x.1 * i) + A (vN .f32 x.2 * i) = N (cv x) * i := by
    rw [A_mul, A_mul, A_of_nonneg i0]; unfold N cv; grind
  have q0 : 0 ≤ N (cv x) * i := Rat.mul_nonneg (N_nonneg _) i0
  have q1 : N (cv x) * i ≤ 14143 / 10000 := by
    have a1 := Rat.mul_le_mul_of_nonneg_right hN i0
    have a2 : 14143 / 10000 * vN .f32 m * i = 14143 / 10000 := by grind
    rw [a2] at a1; exact a1
  have k : p2 (-23) ≤ 1 / 1000000 ∧ p2 (-150) ≤ 1 / 1000000000 ∧ 0 ≤ p2 (-23) ∧ p2 (-150) ≤ 1 / 1000000000 * p2 (-100) := by decide +kernel
  obtain ⟨k1, k2, k3, k4⟩ := k
  have hr : N (cv (fop .quo .f32 x.1 m, fop .quo .f32 x.2 m)) = A (vN .f32 (fop .quo .f32 x.1 m)) + A (vN .f32 (fop .quo .f32 x.2 m)) := rfl
  have t1 := A_add (vN .f32 (fop .quo .f32 x.1 m) - vN .f32 x.1 * i) (vN .f32 x.1 * i)
  have t2 := A_add (vN .f32 (fop .quo .f32 x.2 m) - vN .f32 x.2 * i) (vN .f32 x.2 * i)
  have t3 := A_sub (vN .f32 (fop .quo .f32 x.1 m)) (vN .f32 (fop .quo .f32 x.1 m) - vN .f32 x.1 * i)
  have t4 := A_sub (vN .f32 (fop .quo .f32 x.2 m)) (vN .f32 (fop .quo .f32 x.2 m) - vN .f32 x.2 * i)
  rw [show vN .f32 (fop .quo .f32 x.1 m) - vN .f32 x.1 * i + vN .f32 x.1 * i = vN .f32 (fop .quo .f32 x.1 m) by grind] at t1
  rw [show vN .f32 (fop .quo .f32 x.2 m) - vN .f32 x.2 * i + vN .f32 x.2 * i = vN .f32 (fop .quo .f32 x.2 m) by grind] at t2
  rw [show vN .f32 (fop .quo .f32 x.1 m) - (vN .f32 (fop .quo .f32 x.1 m) - vN .f32 x.1 * i) = vN .f32 x.1 * i by grind] at t3
  rw [show vN .f32 (fop .quo .f32 x.2 m) - (vN .f32 (fop .quo .f32 x.2 m) - vN .f32 x.2 * i) = vN .f32 x.2 * i by grind] at t4
  rw [hr]
  generalize A (vN .f32 (fop .quo .f32 x.1 m)) = r1 at *
  generalize A (vN .f32 (fop .quo .f32 x.2 m)) = r2 at *
  generalize A (vN .f32 (fop .quo .f32 x.1 m) - vN .f32 x.1 * i) = d1 at *
  generalize A (vN .f32 (fop .quo .f32 x.2 m) - vN .f32 x.2 * i) = d2 at *
  generalize A (vN .f32 x.1 * i) = a1 at *
  generalize A (vN .f32 x.2 * i) = a2 at *
  have up : r1 + r2 ≤ N (cv x) * i + (p2 (-23) * (N (cv x) * i) + (p2 (-150) + p2 (-150))) := by
    rw [← nq]
    generalize p2 (-23) = u at *
    generalize p2 (-150) = v at *
    generalize p2 (-100) = w at *
    grind
  have dn : N (cv x) * i ≤ r1 + r2 + (p2 (-23) * (N (cv x) * i) + (p2 (-150) + p2 (-150))) := by
    rw [← nq]
    generalize p2 (-23) = u at *
    generalize p2 (-150) = v at *
    generalize p2 (-100) = w at *
    grind
  refine ⟨⟨f1, f2⟩, st3 up q1 k1 k3 k2 q0, fun L hL hLN => ?_⟩
  have l1 : L ≤ N (cv x) * i := by
    have := Rat.mul_le_mul_of_nonneg_right hLN i0
    have e : L * vN .f32 m * i = L := by grind
    rw [e] at this; exact this
  exact st4 dn l1 k1 (Rat.le_trans k4 (Rat.mul_le_mul_of_nonneg_left hL (by decide +kernel))) q0
/-- One stage. -/
theorem stage {P : List C2} {n : Nat} (hn : P.length = n + 1) (h1 : 1 ≤ n) (nz : zeroC (P.getD n (0, 0)) = false) {Sb L : Rat} (hb1 : 1 ≤ Sb) (hb2 : Sb ≤ p2 20) (hS : ∀ k, k ≤ n → fC (sqT P k) ∧ N (cv (sqT P k)) ≤ Sb)
    (hL1 : p2 (-57) ≤ L) (hL : L ≤ N (cv (sqT P n))) :
    (squareF P).length = n + 1 ∧ polyF (squareF P) = (squareF P, true) ∧ (∀ k, k < n + 1 → fit1 (sqF (powerF ((squareF P).getD k (0, 0)))) ∧ fN .f32 (longF ((squareF P).getD k (0, 0))) = true) ∧ aboveF (mostF (squareF P) (n + 1)) = true ∧
    (radSt P).length = n + 1 ∧ (∀ j, fC ((radSt P).getD j (0, 0)) ∧ N (cv ((radSt P).getD j (0, 0))) ≤ 14145 / 10000) ∧ (1 - 1 / 10000) * L ≤ N (cv ((radSt P).getD n (0, 0))) * Sb ∧ rootedF (radSt P) = true ∧ validF (radSt P) = true := by
  have L0 : 0 < L := by have := p2_pos (-57); grind
  have hlen := sq_len hn h1 nz
  have get : ∀ k, k ≤ n → (squareF P).getD k (0, 0) = sqT P k := fun k hk => sq_get (by omega)
  have S1 : p2 (-40) ≤ Sb := by
    have : p2 (-40) ≤ 1 := by decide +kernel
    grind
  have S2 : Sb ≤ p2 40 := Rat.le_trans hb2 (p2_mono (by decide))
  have kk : p2 (-20) ≤ 1 / 1000000 ∧ 0 ≤ p2 (-20) ∧ p2 (-59) ≤ 7 / 10 * p2 (-57) ∧ p2 (-58) ≤ 69 / 100 * p2 (-57) ∧ p2 (-59) ≤ p2 (-58) * (7071 / 10000) ∧ p2 20 * (1 + p2 (-20)) ≤ p2 40 ∧ p2 (-100) * p2 21 ≤ p2 (-57) * (1 / 2) ∧ p2 20 * (1 + p2 (-20)) ≤ p2 21 := by decide +kernel
  obtain ⟨k1, k2, k3, k4, k5, k6, k7, k8⟩ := kk
  have ll : ∀ k, k ≤ n → fit1 (sqF (powerF (sqT P k))) ∧ fN .f32 (longF (sqT P k)) = true ∧ 0 ≤ vN .f32 (longF (sqT P k)) ∧ vN .f32 (longF (sqT P k)) ≤ Sb * (1 + p2 (-20)) := fun k hk => longF_le (hS k hk).1 (hS k hk).2 S1 S2
  have hSb0 : 0 ≤ Sb * (1 + p2 (-20)) := Rat.mul_nonneg (by grind) (by grind)
  obtain ⟨m1, m2, m3, m4⟩ := mostF_val (S := squareF P) (m := n + 1) (B := Sb * (1 + p2 (-20))) (fun k hk => by rw [get k (by omega)]; exact (ll k (by omega)).2) hSb0 (Nat.le_refl (n + 1))
  have mge : ∀ k, k ≤ n → vN .f32 (longF (sqT P k)) ≤ vN .f32 (mostF (squareF P) (n + 1)) := fun k hk => by have := m4 k (by omega); rwa [get k hk] at this
  have sqh : ∀ z : Q2, ∀ c : Rat, 0 ≤ c → c * c ≤ 1 / 2 → N z * c * (N z * c) ≤ sqN z := fun z c hc hcc => by
    have a := sqN_ge z
    have b := Rat.mul_nonneg (N_nonneg z) (N_nonneg z)
    have d := Rat.mul_le_mul_of_nonneg_left hcc b
    grind
  have mlow : 69 / 100 * L ≤ vN .f32 (mostF (squareF P) (n + 1)) := by
    have q := sqh (cv (sqT P n)) (7 / 10) (by decide +kernel) (by decide +kernel)
    have hc : 7 / 10 * L * (7 / 10 * L) ≤ sqN (cv (sqT P n)) := by
      have a := mul_le hL hL (Rat.le_of_lt L0) (N_nonneg _)
      grind
    have g := longF_ge59 (c := 7 / 10 * L) (hS n (Nat.le_refl _)).1 (hS n (Nat.le_refl _)).2 S2 (by grind) hc
    exact st2 g (mge n (Nat.le_refl _)) k1 (Rat.le_of_lt L0)
  generalize hmw : mostF (squareF P) (n + 1) = mw at *
  have mpos : 0 < vN .f32 mw := by grind
  have hN : ∀ k, k ≤ n → N (cv (sqT P k)) ≤ 14143 / 10000 * vN .f32 mw := fun k hk => by
    by_cases hs : p2 (-58) ≤ N (cv (sqT P k))
    · have q := sqh (cv (sqT P k)) (7071 / 10000) (by decide +kernel) (by decide +kernel)
      have g := longF_ge59 (c := N (cv (sqT P k)) * (7071 / 10000)) (hS k hk).1 (hS k hk).2 S2 (by grind) q
      exact st1 g (mge k hk) k1 (N_nonneg _)
    · have := hL1
      grind
  have rget : ∀ k, k ≤ n → (radSt P).getD k (0, 0) = (fop .quo .f32 (sqT P k).1 mw, fop .quo .f32 (sqT P k).2 mw) := fun k hk => by
    unfold radSt divF
    rw [hlen, hmw, ← get k hk]
    have hk2 : k < (squareF P).length := by omega
    simp [List.getD, hk2]
  have rlen : (radSt P).length = n + 1 := by unfold radSt; rw [divF_len, hlen]
  have sc := fun k (hk : k ≤ n) => scaled (hS k hk).1 m1 mpos (hN k hk)
  have all : ∀ j, fC ((radSt P).getD j (0, 0)) ∧ N (cv ((radSt P).getD j (0, 0))) ≤ 14145 / 10000 := fun j => by
    by_cases hj : j ≤ n
    · rw [rget j hj]; exact ⟨(sc j hj).1, (sc j hj).2.1⟩
    · rw [getD_over (by rw [rlen]; omega), cv0]
      exact ⟨fC0.1, by decide +kernel⟩
  have mb : vN .f32 mw ≤ Sb * (1 + 1 / 1000000) := by
    have := Rat.mul_le_mul_of_nonneg_left k1 (show 0 ≤ Sb by grind)
    grind
  obtain ⟨i, hi⟩ : ∃ i : Rat, i * vN .f32 mw = 1 := ⟨(vN .f32 mw)⁻¹, Rat.inv_mul_cancel _ (by grind)⟩
  have ntop0 : 0 < N (cv (sqT P n)) := by grind
  have m21 : vN .f32 mw ≤ p2 21 := by
    have a := Rat.mul_le_mul_of_nonneg_right hb2 (show 0 ≤ 1 + p2 (-20) by grind)
    grind
  have i0 : 0 ≤ i := by
    rcases Rat.le_total (a := 0) (b := i) with h | h
    · exact h
    · have := Rat.mul_le_mul_of_nonneg_right h (Rat.le_of_lt mpos)
      rw [hi] at this
      grind
  have li : p2 (-100) ≤ L * i := by
    have a := Rat.mul_le_mul_of_nonneg_left m21 (show 0 ≤ p2 (-100) from Rat.le_of_lt (p2_pos _))
    have b : p2 (-100) * vN .f32 mw ≤ L := by grind
    have c := Rat.mul_le_mul_of_nonneg_right b i0
    have d : p2 (-100) * vN .f32 mw * i = p2 (-100) := by grind
    rw [d] at c; exact c
  have top := (sc n (Nat.le_refl _)).2.2 (L * i) li (by rw [Rat.mul_assoc, hi, Rat.mul_one]; exact hL)
  have topL : (1 - 1 / 10000) * L ≤ N (cv ((radSt P).getD n (0, 0))) * Sb := by
    rw [rget n (Nat.le_refl _)]
    generalize N (cv (fop .quo .f32 (sqT P n).1 mw, fop .quo .f32 (sqT P n).2 mw)) = t at *
    have t0 : 0 ≤ t := by
      have := Rat.mul_nonneg (Rat.le_of_lt L0) i0
      grind
    have a := Rat.mul_le_mul_of_nonneg_right top (Rat.le_of_lt mpos)
    have b : (1 - 1 / 100000) * (L * i) * vN .f32 mw = (1 - 1 / 100000) * L := by grind
    rw [b] at a
    have c := Rat.mul_le_mul_of_nonneg_left mb t0
    grind
  have rnz : zeroC ((radSt P).getD ((radSt P).length - 1) (0, 0)) = false := by
    rw [rlen, show n + 1 - 1 = n by omega]
    refine zero_no (all n).1 ?_
    rw [rget n (Nat.le_refl _)]
    have := p2_pos (-100)
    grind
  have allF : ∀ F : List C2, (∀ j, j < F.length → fC (F.getD j (0, 0))) → F.all finC = true := fun F h => by
    rw [List.all_eq_true]
    intro x hx
    obtain ⟨i, hi, rfl⟩ := List.getElem_of_mem hx
    have g := h i hi
    rw [List.getD, List.getElem?_eq_getElem hi] at g
    exact (fC_iff _).1 g
  obtain ⟨_, pS⟩ := poly_of (F := squareF P) (by rw [hlen]; omega) (allF _ (fun j hj => by rw [get j (by omega)]; exact (hS j (by omega)).1)) (by
    rw [hlen, show n + 1 - 1 = n by omega, get n (Nat.le_refl _)]
    exact zero_no (hS n (Nat.le_refl _)).1 ntop0)
  obtain ⟨vR, _⟩ := poly_of (F := radSt P) (by rw [rlen]; omega) (allF _ (fun j _ => (all j).1)) rnz
  have ab : aboveF mw = true := by
    unfold aboveF
    rw [finF_iff, m1, nrm0, (gtr_true m1 (show fN .f32 0 = true from fC0.1.1) (by rw [vN0]; exact mpos)).1]
    rfl
  exact ⟨hlen, pS, fun k hk => by rw [get k (by omega)]; exact ⟨(ll k (by omega)).1, (ll k (by omega)).2.1⟩, ab, rlen, all, topL, by unfold rootedF; rw [vR, rlen]; simp; omega, vR⟩
end Go.Proofs.YtfnhddaofllniaaGreat

/- Radii of roots, plainly: three stages from a drawn polynomial. Conditions: up to four drawn roots. -/
namespace Go.Proofs.YtfnhddaofllniaaGreat
open Go
set_option linter.unusedSimpArgs false
set_option linter.unusedVariables false

theorem sumM_const (b : Rat) (hb : 0 ≤ b) (k i : Nat) : sumM (fun _ => b) k i ≤ 1 / 1024 + (i : Rat) * (b * b) := by
  have bb := Rat.mul_nonneg hb hb
  induction i with
  | zero => show (1 : Rat) / 1024 ≤ 1 / 1024 + ((0 : Nat) : Rat) * (b * b); rw [show ((0 : Nat) : Rat) = 0 from rfl]; grind
  | succ i ih =>
    have ci : (((i + 1 : Nat) : Rat)) = (i : Rat) + 1 := by rw [Rat.natCast_add]; rfl
    rw [ci]
    show (if i ≤ k then _ else _) ≤ _
    split
    · grind
    · grind
theorem sqM_const (b : Rat) (hb : 0 ≤ b) (k : Nat) : sqM (fun _ => b) k ≤ 1 / 512 + 6 * (b * b) := by
  have a := sumM_const b hb k 3
  have c := sumM_const b hb (k - 1) 3
  have bb := Rat.mul_nonneg hb hb
  rw [show ((3 : Nat) : Rat) = 3 from rfl] at a c
  unfold sqM
  split <;> grind
theorem low3 {T a b c d : Rat} (h1 : T * T ≤ 2 * a) (h2 : (1 - 1 / 8388608) * a ≤ b) (h3 : (1 - 1 / 8388608) * b ≤ c) (h4 : (1 - 1 / 8388608) * c ≤ d) (h0 : 0 ≤ a) : T * T * (49999 / 100000) ≤ d := by grind
theorem tl1 {p A B C D : Rat} (h1 : p ≤ A * (1 / 16)) (h2 : A ≤ B) (h3 : B ≤ C) (h4 : C ≤ 2 * D) (h5 : 0 ≤ p) : p ≤ D ∧ p ≤ D * (1 / 8) ∧ 0 ≤ D := by
  have h6 : A ≤ 2 * D := Rat.le_trans h2 (Rat.le_trans h3 h4)
  exact ⟨by grind, by grind, by grind⟩
theorem tl2 {D E : Rat} (h : (1 - 1 / 8388608) * D ≤ E) (h0 : 0 ≤ D) : D * (1 / 2) ≤ E := by grind
theorem tl3 {a b c : Rat} (h : b ≤ (1 + 1 / 8388608) * a) (ha : a ≤ c) (hc : c ≤ 10) : b ≤ c + 1 := by grind
/-- The top term of the squared polynomial is not too small. -/
theorem top_low {P : List C2} {n : Nat} (hn : P.length = n + 1) (h1 : 1 ≤ n) (hf : fC (P.getD n (0, 0))) {T : Rat} (hT : p2 (-40) ≤ T) (hl : T ≤ N (cv (P.getD n (0, 0)))) (hu : N (cv (P.getD n (0, 0))) ≤ 2) :
    T * T * (49999 / 100000) ≤ N (cv (sqT P n)) := by
  have T0 : 0 < T := by have := p2_pos (-40); grind
  have nz : zeroC (P.getD n (0, 0)) = false := zero_no hf (by grind)
  rw [sq_top hn h1 nz]
  generalize P.getD n (0, 0) = x at *
  have kk : (2 : Rat) ≤ p2 40 ∧ (4 : Rat) ≤ p2 40 ∧ (5 : Rat) ≤ p2 40 ∧ (6 : Rat) ≤ p2 40 ∧ (7 : Rat) ≤ p2 60 ∧ p2 (-100) ≤ p2 (-40) * p2 (-40) * (1 / 16) := by decide +kernel
  obtain ⟨k2, k4, k5, k6, k7, k3⟩ := kk
  have sq := sq_low (cv x)
  have TT := mul_le hl hl (Rat.le_of_lt T0) (N_nonneg _)
  have tt := mul_le hT hT (Rat.le_of_lt (p2_pos _)) (Rat.le_of_lt T0)
  have up : N (cv x * cv x) ≤ 4 := Rat.le_trans (Rat.le_trans (N_mul (cv x) (cv x)) (mul_le hu hu (N_nonneg _) (by decide +kernel))) (by decide +kernel)
  obtain ⟨lo, lo8, a0⟩ := tl1 k3 tt TT sq (Rat.le_of_lt (p2_pos _))
  have sq2 : T * T ≤ 2 * N (cv x * cv x) := Rat.le_trans TT sq
  have mn := (mulC_near hf hf (lt_of_p2 (Rat.le_trans hu k2) (by decide +kernel)) (lt_of_p2 (Rat.le_trans hu k2) (by decide +kernel)) (lt_of_p2 (Rat.le_trans up k4) (by decide +kernel))).2
  obtain ⟨b1, b2⟩ := near_low mn lo Rat.le_refl
  have m5 : N (cv (mulC x x)) ≤ 5 := Rat.le_trans (tl3 b2 up (by decide +kernel)) (by decide +kernel)
  have mh := tl2 b1 a0
  have ml : p2 (-100) ≤ N (cv (mulC x x)) := by
    generalize p2 (-100) = w at *
    grind
  have z0 : fC (0, 0) := fC0.1
  have ea : cv (0, 0) + cv (mulC x x) = cv (mulC x x) := by rw [cv0]; refine q2e ?_ ?_ <;> (simp [zero2]; try grind)
  have an := addC_near z0 mn.1 (by rw [ea]; exact lt_of_p2 (Rat.le_trans m5 k5) (by decide +kernel))
  rw [ea] at an
  obtain ⟨c1, c2⟩ := near_low an ml Rat.le_refl
  have a6 : N (cv (addC (0, 0) (mulC x x))) ≤ 6 := Rat.le_trans (tl3 c2 m5 (by decide +kernel)) (by decide +kernel)
  have ah := tl2 c1 (N_nonneg _)
  have al : p2 (-100) ≤ N (cv (addC (0, 0) (mulC x x))) := by
    generalize p2 (-100) = w at *
    grind
  split
  · have es : cv (0, 0) - cv (addC (0, 0) (mulC x x)) = -cv (addC (0, 0) (mulC x x)) := by rw [cv0]; refine q2e ?_ ?_ <;> (simp [zero2]; try grind)
    have sn := subC_near z0 an.1 (by rw [es, N_neg]; exact lt_of_p2 (Rat.le_trans a6 k6) (by decide +kernel))
    rw [es] at sn
    obtain ⟨d1, d2⟩ := near_low sn al (by rw [N_neg]; exact Rat.le_refl)
    rw [N_neg] at d1 d2
    have s7 := Rat.le_trans (tl3 d2 a6 (by decide +kernel)) (show (6 : Rat) + 1 ≤ 7 by decide +kernel)
    obtain ⟨_, e2⟩ := scale_neg sn.1 (Rat.le_trans s7 k7)
    rw [e2, N_neg]
    exact low3 sq2 b1 c1 d1 a0
  · have es : cv (addC (0, 0) (mulC x x)) - cv (0, 0) = cv (addC (0, 0) (mulC x x)) := by rw [cv0]; refine q2e ?_ ?_ <;> (simp [zero2]; try grind)
    have sn := subC_near an.1 z0 (by rw [es]; exact lt_of_p2 (Rat.le_trans a6 k6) (by decide +kernel))
    rw [es] at sn
    obtain ⟨d1, d2⟩ := near_low sn al Rat.le_refl
    exact low3 sq2 b1 c1 d1 a0
/-- The stages behind the first one. -/
theorem stage_next {P : List C2} {n : Nat} (hn : P.length = n + 1) (h1 : 1 ≤ n) (h4 : n ≤ 4) (hf : ∀ j, fC (P.getD j (0, 0)) ∧ N (cv (P.getD j (0, 0))) ≤ 14145 / 10000) {T : Rat} (hT : p2 (-40) ≤ T) (hl : T ≤ N (cv (P.getD n (0, 0)))) :
    safeSquare P ∧ zeroC (P.getD n (0, 0)) = false ∧ (∀ k, k ≤ n → fC (sqT P k) ∧ N (cv (sqT P k)) ≤ 121 / 10) ∧ T * T * (49999 / 100000) ≤ N (cv (sqT P n)) := by
  have b12 : p2 (-10) ≤ (14145 : Rat) / 10000 ∧ (14145 : Rat) / 10000 ≤ p2 12 ∧ 1 / 512 + 6 * ((14145 : Rat) / 10000 * (14145 / 10000)) ≤ 1201 / 100 ∧ ud * (40 * (1201 / 100)) ≤ 1 / 100 ∧ 0 ≤ ud := by decide +kernel
  obtain ⟨b1, b2, b3, b4, b5⟩ := b12
  have ap := fun k => sq_ap hn h1 h4 (b := fun _ => 14145 / 10000) (fun _ => ⟨b1, b2⟩) hf (sqM_le (fun _ => ⟨b1, b2⟩)) k
  refine ⟨sq_safe hn h1 h4 (fun j => ⟨(hf j).1, Rat.le_trans (hf j).2 b2⟩), zero_no (hf n).1 (by have := p2_pos (-40); grind), fun k hk => ⟨(ap k).f, ?_⟩, top_low hn h1 (hf n).1 hT hl (Rat.le_trans (hf n).2 (by decide +kernel))⟩
  have a := (ap k).cvN.1
  have m := Rat.le_trans (sqM_const (14145 / 10000) (by decide +kernel) k) b3
  have p := (ap k).p
  have q := Rat.mul_le_mul_of_nonneg_left (Rat.le_trans p (Rat.mul_le_mul_of_nonneg_left m (by decide +kernel))) b5
  grind
section
variable {ls : List C2} {X : Nat → Int × Int}
/-- The three stages. -/
theorem DX.radii (h : DX ls X) (h1 : 1 ≤ ls.length) (h4 : ls.length ≤ 4) {P : List C2} (hP : rootsL (ls.map nc) ls.length = P) {n : Nat} (hn' : ls.length = n) :
    (∀ j, j ≤ 3 → (radI P j).length = n + 1) ∧ (∀ j, j ≤ 3 → rootedF (radI P j) = true ∧ validF (radI P j) = true) ∧ (∀ j, j < 3 → safeSquare (radI P j) ∧ polyF (squareF (radI P j)) = (squareF (radI P j), true) ∧ (squareF (radI P j)).length = n + 1) ∧
    (∀ j, j < 3 → ∀ k, k < n + 1 → fit1 (sqF (powerF ((squareF (radI P j)).getD k (0, 0)))) ∧ fN .f32 (longF ((squareF (radI P j)).getD k (0, 0))) = true) ∧ (∀ j, j < 3 → aboveF (mostF (squareF (radI P j)) (n + 1)) = true) ∧
    ∀ k, fC ((radI P 3).getD k (0, 0)) ∧ N (cv ((radI P 3).getD k (0, 0))) ≤ 14145 / 10000 := by
  obtain ⟨s1, s2, s3, s4, s5⟩ := h.square h1 h4
  have pr := (h.poly h1 h4).2.2
  have ht := fun j => h.terms h4 j
  have hlen : (rootsL (ls.map nc) ls.length).length = ls.length + 1 := rootsL_length _ _
  have hsd := (sides (t := fun j => cv ((rootsL (ls.map nc) ls.length).getD j (0, 0))) h1 h4 (by show cv _ = _; rw [(ht _).2.2, if_pos (Nat.le_refl _), cq_top]) (fun j hj => by show cv _ = _; rw [(ht j).2.2, if_neg (by omega)]) zero2).2
  have ntop : cv ((rootsL (ls.map nc) ls.length).getD ls.length (0, 0)) = one2 := by rw [(ht _).2.2, if_pos (Nat.le_refl _), cq_top]
  simp only [hP] at s1 s2 s3 s4 s5 hlen hsd ntop pr ht
  simp only [hn'] at s1 s2 s3 s4 s5 hlen hsd ntop pr ht
  rw [hn'] at h1 h4
  have nz : zeroC (P.getD n (0, 0)) = false := not_zeroC (ht n).1 (by rw [ntop]; decide)
  have hS0 : ∀ k, k ≤ n → fC (sqT P k) ∧ N (cv (sqT P k)) ≤ 3200 := fun k hk => by
    have a := s5 k hk
    rw [sq_get (by omega)] at a
    have c := a.cvN.1
    have t := (show ∀ k, k < 5 → msT k + ud * psT k ≤ 3200 by decide +kernel) k (by omega)
    exact ⟨a.f, Rat.le_trans c t⟩
  have hL0 : 999 / 1000 ≤ N (cv (sqT P n)) := by
    have a := s5 n (Nat.le_refl _)
    rw [sq_get (by omega), hsd] at a
    have c := N_tri one2 (cv (sqT P n))
    rw [N_comm one2, N_one] at c
    have e := a.e
    have t := (show ∀ k, k < 5 → 1 ≤ k → ud * psT k ≤ 1 / 1000 by decide +kernel) n (by omega) h1
    grind
  have nums : p2 (-57) ≤ (999 : Rat) / 1000 ∧ p2 (-57) ≤ (48 : Rat) / 1000000000 ∧ p2 (-57) ≤ (7 : Rat) / 1000000000000000000 ∧ p2 (-40) ≤ (312 : Rat) / 1000000 ∧ p2 (-40) ≤ (39 : Rat) / 10000000000 ∧ (3200 : Rat) ≤ p2 20 ∧ (121 : Rat) / 10 ≤ p2 20 ∧ (1 : Rat) ≤ 121 / 10 ∧ (1 : Rat) ≤ 3200 := by decide +kernel
  obtain ⟨n1, n2, n3, n4, n5, n6, n7, n8, n9⟩ := nums
  obtain ⟨a1, a2, a3, a4, a5, a6, a7, a8, a9⟩ := stage hlen h1 nz n9 n6 hS0 n1 hL0
  obtain ⟨b1, b2, b3, b4⟩ := stage_next a5 h1 h4 a6 n4 (by grind)
  obtain ⟨c1, c2, c3, c4, c5, c6, c7, c8, c9⟩ := stage a5 h1 b2 n8 n7 b3 n2 (Rat.le_trans (by decide +kernel) b4)
  obtain ⟨d1, d2, d3, d4⟩ := stage_next c5 h1 h4 c6 n5 (by grind)
  obtain ⟨e1', e2, e3, e4, e5, e6, e7, e8, e9⟩ := stage c5 h1 d2 n8 n7 d3 n3 (Rat.le_trans (by decide +kernel) d4)
  have vP : validF P = true := by
    unfold rootedF at pr
    rw [Bool.and_eq_true] at pr
    exact pr.1
  refine ⟨fun j hj => ?_, fun j hj => ?_, fun j hj => ?_, fun j hj => ?_, fun j hj => ?_, e6⟩
  · rcases (by omega : j = 0 ∨ j = 1 ∨ j = 2 ∨ j = 3) with rfl | rfl | rfl | rfl
    · exact hlen
    · exact a5
    · exact c5
    · exact e5
  · rcases (by omega : j = 0 ∨ j = 1 ∨ j = 2 ∨ j = 3) with rfl | rfl | rfl | rfl
    · exact ⟨pr, vP⟩
    · exact ⟨a8, a9⟩
    · exact ⟨c8, c9⟩
    · exact ⟨e8, e9⟩
  · rcases (by omega : j = 0 ∨ j = 1 ∨ j = 2) with rfl | rfl | rfl
    · exact ⟨s1, a2, a1⟩
    · exact ⟨b1, c2, c1⟩
    · exact ⟨d1, e2, e1'⟩
  · rcases (by omega : j = 0 ∨ j = 1 ∨ j = 2) with rfl | rfl | rfl
    · exact a3
    · exact c3
    · exact e3
  · rcases (by omega : j = 0 ∨ j = 1 ∨ j = 2) with rfl | rfl | rfl
    · exact a4
    · exact c4
    · exact e4
end
end Go.Proofs.YtfnhddaofllniaaGreat

/- Radii of roots, plainly: logarithms and exponentials are told and not too great. Conditions: lengths that are positive and at most 29/20. -/
namespace Go.Proofs.YtfnhddaofllniaaGreat
open Go
set_option linter.unusedSimpArgs false
set_option linter.unusedVariables false

/-- A number of float64, bounded. -/
def Bd (x : Nat) (b : Rat) : Prop := fN .f64 x = true ∧ A (vN .f64 x) ≤ b
instance (x : Nat) (b : Rat) : Decidable (Bd x b) := inferInstanceAs (Decidable (_ ∧ _))
theorem bd_k : p2 (-53) * 1000 + p2 (-1075) ≤ 1 / 1000 ∧ (1000 : Rat) < p2 1023 ∧ 0 ≤ p2 (-53) ∧ p2 (-52) * 1000 + p2 (-1075) ≤ 1 / 1000 ∧ 0 ≤ p2 (-52) ∧ (1000 : Rat) < p2 1000 := by decide +kernel
theorem bd_res {r : Nat} {q b : Rat} (h : Res .f64 r q) (hq : A q ≤ b) (hb : b ≤ 1000) : Bd r (b + 1 / 1000) := by
  obtain ⟨k1, k2, k3, _⟩ := bd_k
  refine ⟨h.1, ?_⟩
  have e : A (vN .f64 r - q) ≤ p2 (-53) * A q + p2 (-1075) := h.2.1
  have t := A_add (vN .f64 r - q) q
  rw [show vN .f64 r - q + q = vN .f64 r by grind] at t
  have m := Rat.mul_le_mul_of_nonneg_left (Rat.le_trans hq hb) k3
  generalize p2 (-53) = u at *
  generalize p2 (-1075) = v at *
  grind
theorem Bd.add {x y : Nat} {b c : Rat} (hx : Bd x b) (hy : Bd y c) (h : b + c ≤ 1000) : Bd (fop .add .f64 x y) (b + c + 1 / 1000) := by
  have t := Rat.le_trans (A_add (vN .f64 x) (vN .f64 y)) (show _ ≤ b + c by have := hx.2; have := hy.2; grind)
  exact bd_res (fop_add_res hx.1 hy.1 (by show _ < p2 1023; have := bd_k.2.1; grind)) t h
theorem Bd.sub {x y : Nat} {b c : Rat} (hx : Bd x b) (hy : Bd y c) (h : b + c ≤ 1000) : Bd (fop .sub .f64 x y) (b + c + 1 / 1000) := by
  have t := Rat.le_trans (A_sub (vN .f64 x) (vN .f64 y)) (show _ ≤ b + c by have := hx.2; have := hy.2; grind)
  exact bd_res (fop_sub_res hx.1 hy.1 (by show _ < p2 1023; have := bd_k.2.1; grind)) t h
theorem Bd.mul {x y : Nat} {b c : Rat} (hx : Bd x b) (hy : Bd y c) (h : b * c ≤ 1000) : Bd (fop .mul .f64 x y) (b * c + 1 / 1000) := by
  have t : A (vN .f64 x * vN .f64 y) ≤ b * c := by rw [A_mul]; exact mul_le hx.2 hy.2 (A_nonneg _) (Rat.le_trans (A_nonneg _) hx.2)
  exact bd_res (fop_mul_res hx.1 hy.1 (by show _ < p2 1023; have := bd_k.2.1; grind)) t h
theorem Bd.quo {x y : Nat} {b l : Rat} (hx : Bd x b) (hy : fN .f64 y = true) (hl : 1 ≤ l) (hly : l ≤ vN .f64 y) (h : b ≤ 1000 * l) (h0 : b ≤ 1000) : Bd (fop .quo .f64 x y) (b + 1 / 1000) := by
  have y0 : 0 < vN .f64 y := by grind
  obtain ⟨i, hi⟩ : ∃ i : Rat, i * vN .f64 y = 1 := ⟨(vN .f64 y)⁻¹, Rat.inv_mul_cancel _ (by grind)⟩
  have i0 : 0 ≤ i := by
    rcases Rat.le_total (a := 0) (b := i) with h | h
    · exact h
    · have := Rat.mul_le_mul_of_nonneg_right h (Rat.le_of_lt y0)
      rw [hi] at this
      grind
  have i1 : i ≤ 1 := by
    have := Rat.mul_le_mul_of_nonneg_left (Rat.le_trans hl hly) i0
    rw [hi] at this
    grind
  have aq : A (vN .f64 x * i) ≤ b := by
    rw [A_mul, A_of_nonneg i0]
    have := mul_le hx.2 i1 i0 (Rat.le_trans (A_nonneg _) hx.2)
    grind
  obtain ⟨k1, k2, k3, k4, k5, k6⟩ := bd_k
  obtain ⟨f, e⟩ := fop_quo_ok hx.1 hy (by grind) (q := vN .f64 x * i) (by rw [Rat.mul_assoc, hi, Rat.mul_one]) (by grind)
  refine ⟨f, ?_⟩
  have t := A_add (vN .f64 (fop .quo .f64 x y) - vN .f64 x * i) (vN .f64 x * i)
  rw [show vN .f64 (fop .quo .f64 x y) - vN .f64 x * i + vN .f64 x * i = vN .f64 (fop .quo .f64 x y) by grind] at t
  have m := Rat.mul_le_mul_of_nonneg_left (Rat.le_trans aq h0) k5
  generalize p2 (-52) = u at *
  generalize p2 (-1075) = v at *
  grind
theorem Bd.mono {x : Nat} {b c : Rat} (h : Bd x b) (hb : b ≤ c) : Bd x c := ⟨h.1, Rat.le_trans h.2 hb⟩
theorem bd_const : Bd (nrm .f64 4607182418800017408) 1 ∧ Bd (nrm .f64 4611686018427387904) 2 ∧ Bd (nrm .f64 0) 0 ∧ vN .f64 (nrm .f64 4607182418800017408) = 1 ∧ vN .f64 (nrm .f64 4611686018427387904) = 2 ∧ Bd (nrm .f64 4643211215818981376) 256 ∧ (256 : Rat) ≤ vN .f64 (nrm .f64 4643211215818981376) := by decide +kernel
theorem bd_k13 : ∀ i, i < 13 → Bd (fop .quo .f64 (nrm .f64 4607182418800017408) (nrm .f64 (kW i))) 1 := by decide +kernel
theorem bd_e : ∀ j, j < 200 → Bd (fop .mul .f64 (nrm .f64 (eW j)) (nrm .f64 4604418534313441775)) 139 := by decide +kernel
theorem bd_k2 : ∀ i, i < 12 → fN .f64 (nrm .f64 (k2 i)) = true ∧ (1 : Rat) ≤ vN .f64 (nrm .f64 (k2 i)) := by decide +kernel
theorem ser_bd {u : Nat} (hu : Bd u (3 / 10)) : ∀ i, i ≤ 13 → Bd (serF u i) 2 := by
  intro i
  induction i with
  | zero => exact fun _ => bd_const.2.2.1.mono (by decide +kernel)
  | succ i ih =>
    intro hi
    have a := hu.mul (ih (by omega)) (by decide +kernel)
    exact ((bd_k13 i (by omega)).add a (by decide +kernel)).mono (by decide +kernel)
/-- A logarithm is not too great. -/
theorem log_bd {y j : Nat} (hy : fN .f64 y = true) (h1 : 3 / 4 ≤ vN .f64 y) (h2 : vN .f64 y ≤ 3 / 2) (hj : j < 200) : Bd (logE y j) 150 := by
  obtain ⟨o1, t1, z1, o2, t2, _⟩ := bd_const
  have yd : A (vN .f64 y - vN .f64 (nrm .f64 4607182418800017408)) ≤ 1 / 2 := by rw [o2, A_le]; constructor <;> grind
  have r1 := fop_sub_res (k := .f64) hy o1.1 (by show _ < p2 1023; have := bd_k.2.1; grind)
  have s1 := bd_res r1 yd (by decide +kernel)
  have r2 := fop_add_res (k := .f64) hy o1.1 (by rw [o2, A_of_nonneg (by grind)]; show _ < p2 1023; have := bd_k.2.1; grind)
  rw [o2] at r2
  have e2 : A (vN .f64 (fop .add .f64 y (nrm .f64 4607182418800017408)) - (vN .f64 y + 1)) ≤ p2 (-53) * A (vN .f64 y + 1) + p2 (-1075) := r2.2.1
  have lo : 1 ≤ vN .f64 (fop .add .f64 y (nrm .f64 4607182418800017408)) := by
    rw [A_of_nonneg (show 0 ≤ vN .f64 y + 1 by grind)] at e2
    have a := (A_le.1 e2).2
    have k : p2 (-53) ≤ 1 / 1000 ∧ p2 (-1075) ≤ 1 / 1000 ∧ 0 ≤ p2 (-53) := by decide +kernel
    obtain ⟨k1, k2, k3⟩ := k
    have m := Rat.mul_le_mul_of_nonneg_right k1 (show 0 ≤ vN .f64 y + 1 by grind)
    grind
  have s := s1.quo r2.1 Rat.le_refl lo (by decide +kernel) (by decide +kernel)
  have s' : Bd (slF y) (51 / 100) := s.mono (by decide +kernel)
  have u : Bd (fop .mul .f64 (slF y) (slF y)) (3 / 10) := (s'.mul s' (by decide +kernel)).mono (by decide +kernel)
  have q := ser_bd u 13 (Nat.le_refl _)
  have p := (s'.mul q (by decide +kernel)).mono (show _ ≤ 11 / 10 by decide +kernel)
  have p2' := (t1.mul p (by decide +kernel)).mono (show _ ≤ 3 by decide +kernel)
  exact (p2'.add (bd_e j hj) (by decide +kernel)).mono (by decide +kernel)
theorem pF_bd {t : Nat} (ht : Bd t (16 / 100)) : ∀ i, i ≤ 12 → Bd (pF t i) (125 / 100) := by
  obtain ⟨o1, t1, z1, o2, t2, _⟩ := bd_const
  intro i
  induction i with
  | zero => exact fun _ => o1.mono (by decide +kernel)
  | succ i ih =>
    intro hi
    obtain ⟨k1, k2'⟩ := bd_k2 i (by omega)
    have a := (ht.mul (ih (by omega)) (by decide +kernel)).quo k1 Rat.le_refl k2' (by decide +kernel) (by decide +kernel)
    exact (o1.add a (by decide +kernel)).mono (by decide +kernel)
def sqB (i : Nat) : Rat := match i with | 0 => 125 / 100 | 1 => 16 / 10 | 2 => 26 / 10 | 3 => 7 | 4 => 50 | 5 => 2600 | 6 => 7000000 | 7 => 50000000000000 | _ => 2600000000000000000000000000
theorem sqB_tab : ∀ i, i < 8 → sqB i * sqB i + (p2 (-53) * (sqB i * sqB i) + p2 (-1075)) ≤ sqB (i + 1) ∧ sqB i * sqB i < p2 1000 ∧ 0 ≤ sqB i := by decide +kernel
theorem sqI_bd {p : Nat} (hp : Bd p (125 / 100)) : ∀ i, i ≤ 8 → Bd (sqI p i) (sqB i) := by
  intro i
  induction i with
  | zero => exact fun _ => hp
  | succ i ih =>
    intro hi
    have h := ih (by omega)
    obtain ⟨t1, t2, t3⟩ := sqB_tab i (by omega)
    have a : A (vN .f64 (sqI p i) * vN .f64 (sqI p i)) ≤ sqB i * sqB i := by rw [A_mul]; exact mul_le h.2 h.2 (A_nonneg _) t3
    have R := fop_mul_res (k := .f64) h.1 h.1 (by
      show _ < p2 1023
      have := p2_mono (show (1000 : Int) ≤ 1023 by decide)
      grind)
    refine ⟨R.1, ?_⟩
    have e : A (vN .f64 (fop .mul .f64 (sqI p i) (sqI p i)) - vN .f64 (sqI p i) * vN .f64 (sqI p i)) ≤ p2 (-53) * A (vN .f64 (sqI p i) * vN .f64 (sqI p i)) + p2 (-1075) := R.2.1
    have t := A_add (vN .f64 (fop .mul .f64 (sqI p i) (sqI p i)) - vN .f64 (sqI p i) * vN .f64 (sqI p i)) (vN .f64 (sqI p i) * vN .f64 (sqI p i))
    rw [show vN .f64 (fop .mul .f64 (sqI p i) (sqI p i)) - vN .f64 (sqI p i) * vN .f64 (sqI p i) + vN .f64 (sqI p i) * vN .f64 (sqI p i) = vN .f64 (fop .mul .f64 (sqI p i) (sqI p i)) by grind] at t
    have m := Rat.mul_le_mul_of_nonneg_left a (Rat.le_of_lt (p2_pos (-53)))
    show A (vN .f64 (fop .mul .f64 (sqI p i) (sqI p i))) ≤ _
    generalize p2 (-53) = u at *
    generalize p2 (-1075) = v at *
    generalize sqB i * sqB i = w at *
    grind
/-- An exponential is told. -/
theorem exp_ok {y : Nat} (hy : fN .f32 y = true) (hb : A (vN .f32 y) ≤ 40) : ExpOk y ∧ finF (expN y) = true := by
  obtain ⟨o1, t1, z1, o2, t2, c1, c2⟩ := bd_const
  obtain ⟨w1, w2⟩ := wd_ok hy (by have := (show (40 : Rat) < p2 1023 by decide +kernel); grind)
  have bw : Bd (wd y) 40 := ⟨w1, by rw [w2]; exact hb⟩
  have hs : fN .f64 (nrm .f64 4641240890982006784) = true ∧ (40 : Rat) ≤ vN .f64 (nrm .f64 4641240890982006784) ∧ fN .f64 (nrm .f64 13864612927836782592) = true ∧ vN .f64 (nrm .f64 13864612927836782592) ≤ -40 := by decide +kernel
  obtain ⟨g1, g2, g3, g4⟩ := hs
  have ab := A_le.1 bw.2
  have tt : Bd (fop .quo .f64 (wd y) (nrm .f64 4643211215818981376)) (16 / 100) := by
    obtain ⟨i, hi⟩ : ∃ i : Rat, i * vN .f64 (nrm .f64 4643211215818981376) = 1 := ⟨(vN .f64 (nrm .f64 4643211215818981376))⁻¹, Rat.inv_mul_cancel _ (by grind)⟩
    have ev : vN .f64 (nrm .f64 4643211215818981376) = 256 := by decide +kernel
    rw [ev] at hi
    have ei : i = 1 / 256 := by grind
    obtain ⟨f, e⟩ := fop_quo_ok w1 c1.1 (by rw [ev]; decide) (q := vN .f64 (wd y) * (1 / 256)) (by rw [ev]; grind) (by
      rw [A_mul]
      have : A (1 / 256) ≤ 1 := by decide +kernel
      have := mul_le bw.2 this (A_nonneg _) (by decide +kernel)
      have := (show (40 : Rat) * 1 < p2 1000 by decide +kernel)
      grind)
    refine ⟨f, ?_⟩
    have aq : A (vN .f64 (wd y) * (1 / 256)) ≤ 40 * (1 / 256) := by
      rw [A_mul]
      exact mul_le bw.2 (by decide +kernel) (A_nonneg _) (by decide +kernel)
    have t := A_add (vN .f64 (fop .quo .f64 (wd y) (nrm .f64 4643211215818981376)) - vN .f64 (wd y) * (1 / 256)) (vN .f64 (wd y) * (1 / 256))
    rw [show vN .f64 (fop .quo .f64 (wd y) (nrm .f64 4643211215818981376)) - vN .f64 (wd y) * (1 / 256) + vN .f64 (wd y) * (1 / 256) = vN .f64 (fop .quo .f64 (wd y) (nrm .f64 4643211215818981376)) by grind] at t
    have m := Rat.mul_le_mul_of_nonneg_left aq (Rat.le_of_lt (p2_pos (-52)))
    have k : p2 (-52) * (40 * (1 / 256)) + p2 (-1075) ≤ 1 / 1000 := by decide +kernel
    generalize p2 (-52) = u at *
    generalize p2 (-1075) = v at *
    grind
  have E := sqI_bd (pF_bd tt 12 (Nat.le_refl _)) 8 (Nat.le_refl _)
  have E' : Bd (expE (wd y)) (sqB 8) := E
  have lt : A (vN .f64 (expE (wd y))) < p2 127 := by
    have := (show sqB 8 < p2 127 by decide +kernel)
    have := E'.2
    grind
  obtain ⟨n1, n2⟩ := nw_ok E'.1 lt
  refine ⟨⟨⟨(fcmp_self (fN_not_nan w1)).1, gtr_false w1 g1 (by grind), lss_false w1 g3 (by grind)⟩, n1⟩, ?_⟩
  rw [finF_iff]
  exact n2.1
end Go.Proofs.YtfnhddaofllniaaGreat

/- Radii of roots, plainly: all that the walks of RadiiOfRoots need. Conditions: up to four drawn roots. -/
namespace Go.Proofs.YtfnhddaofllniaaGreat
open Go
set_option linter.unusedSimpArgs false
set_option linter.unusedVariables false

theorem lss_true {k : FloatKind} {x y : Nat} (hx : fN k x = true) (hy : fN k y = true) (h : vN k x < vN k y) : fcmp .lss k x y = true := by
  obtain ⟨a, b, e, h1, h2, h3⟩ := order_num hx hy
  unfold fcmp
  rw [h3]
  rw [h1, h2] at h
  have h5 : a < b := by
    rcases Int.lt_or_le a b with hh | hh
    · exact hh
    · have : (b : Rat) ≤ (a : Rat) := by exact_mod_cast hh
      have := Rat.mul_le_mul_of_nonneg_right this (Rat.le_of_lt (p2_pos e))
      grind
  rw [Int.compare_eq_lt.2 h5]
  rfl
theorem c_vals : fN .f64 (nrm .f64 4604930618986332160) = true ∧ vN .f64 (nrm .f64 4604930618986332160) = 3 / 4 ∧ fN .f64 (nrm .f64 4609434218613702656) = true ∧ vN .f64 (nrm .f64 4609434218613702656) = 3 / 2 ∧ fN .f64 (nrm .f64 9218868437227405311) = true ∧ (2 : Rat) ≤ vN .f64 (nrm .f64 9218868437227405311) ∧
    fN .f64 (nrm .f64 0) = true ∧ vN .f64 (nrm .f64 0) = 0 ∧ fN .f32 (nrm .f32 0) = true ∧ vN .f32 (nrm .f32 0) = 0 := by decide +kernel
theorem up_val {y : Nat} (hy : fN .f64 y = true) (h0 : 0 ≤ vN .f64 y) (h2 : vN .f64 y ≤ 2) : ∀ j : Nat, j ≤ 200 → fN .f64 (upF y j) = true ∧ vN .f64 (upF y j) = vN .f64 y * p2 (j : Int) := by
  intro j
  induction j with
  | zero => exact fun _ => ⟨hy, by rw [show ((0 : Nat) : Int) = 0 from rfl, p2_zero, Rat.mul_one]; rfl⟩
  | succ j ih =>
    intro hj
    obtain ⟨a, b⟩ := ih (by omega)
    obtain ⟨_, t1, _, _, t2, _⟩ := bd_const
    have pj : p2 ((j + 1 : Nat) : Int) = p2 (j : Int) * 2 := by
      rw [show (((j + 1 : Nat) : Int)) = (j : Int) + 1 by omega, p2_add]; rfl
    have big : vN .f64 (upF y j) * vN .f64 (nrm .f64 4611686018427387904) = vN .f64 y * p2 ((j + 1 : Nat) : Int) := by rw [b, t2, pj]; grind
    have nn : 0 ≤ vN .f64 y * p2 ((j + 1 : Nat) : Int) := Rat.mul_nonneg h0 (Rat.le_of_lt (p2_pos _))
    have R := fop_mul_res (k := .f64) a t1.1 (by
      rw [big, A_of_nonneg nn]
      have m := mul_le h2 (p2_mono (show ((j + 1 : Nat) : Int) ≤ 300 by omega)) (Rat.le_of_lt (p2_pos _)) (by decide)
      have := (show (2 : Rat) * p2 300 < p2 1023 by decide +kernel)
      show _ < p2 1023
      grind)
    refine ⟨R.1, ?_⟩
    obtain ⟨m, e, g1, g2, g3⟩ := vN_lt .f64 a
    have ex := R.exactA (m := m) (e := e + 1) (by
      rw [A_mul, g1, t2, p2_add, show A 2 = 2 by decide +kernel, show p2 1 = 2 from rfl]; grind) g2 (by omega)
    show vN .f64 (fop .mul .f64 (upF y j) (nrm .f64 4611686018427387904)) = _
    rw [ex, big]
theorem above_pos {x : Nat} (h : aboveF x = true) : fN .f32 x = true ∧ 0 < vN .f32 x := by
  unfold aboveF at h
  rw [Bool.and_eq_true, finF_iff] at h
  refine ⟨h.1, ?_⟩
  obtain ⟨_, _, _, _, _, _, _, _, z1, z2⟩ := c_vals
  by_cases hv : 0 < vN .f32 x
  · exact hv
  · have := gtr_false h.1 z1 (by rw [z2]; grind)
    rw [this] at h; cases h.2
theorem log_ok {x : Nat} (hp : aboveF x = true) (hb : vN .f32 x ≤ 29 / 20) : LogOk x (Jf x) ∧ fN .f32 (logG x) = true ∧ A (vN .f32 (logG x)) ≤ 151 := by
  obtain ⟨hx, x0⟩ := above_pos hp
  obtain ⟨c1, c2, c3, c4, c5, c6, z1, z2, z3, z4⟩ := c_vals
  obtain ⟨w1, w2⟩ := wd_ok hx (by rw [A_of_nonneg (Rat.le_of_lt x0)]; have := (show (29 : Rat) / 20 < p2 1023 by decide +kernel); grind)
  have up := up_val w1 (by rw [w2]; exact Rat.le_of_lt x0) (by rw [w2]; grind)
  rw [w2] at up
  obtain ⟨m, e, g1, g2, g3⟩ := vN_lt .f32 hx
  have low : p2 (-149) ≤ vN .f32 x := by
    rw [A_of_nonneg (Rat.le_of_lt x0)] at g1
    have m1 : 1 ≤ m := by
      rcases Nat.eq_zero_or_pos m with h | h
      · subst h; rw [show ((0 : Nat) : Rat) = 0 from rfl] at g1; grind
      · exact h
    have m2 : (1 : Rat) ≤ (m : Rat) := by exact_mod_cast m1
    have a := p2_mono (show (-149 : Int) ≤ e from g3)
    have b := Rat.mul_le_mul_of_nonneg_right m2 (Rat.le_of_lt (p2_pos e))
    rw [g1]
    grind
  obtain ⟨p, hpd⟩ : ∃ p : Nat → Bool, p = fun j => !fcmp .lss .f64 (upF (wd x) j) (nrm .f64 4604930618986332160) := ⟨_, rfl⟩
  have hJ : Jf x = (List.range 199).findIdx p := by rw [hpd]; rfl
  have p149 : p 149 = true := by
    rw [hpd]
    obtain ⟨a, b⟩ := up 149 (by omega)
    have : (1 : Rat) ≤ vN .f64 (upF (wd x) 149) := by
      rw [b]
      have := Rat.mul_le_mul_of_nonneg_right low (Rat.le_of_lt (p2_pos ((149 : Nat) : Int)))
      rw [← p2_add, show (-149 : Int) + ((149 : Nat) : Int) = 0 by decide, p2_zero] at this
      exact this
    simp only [lss_false a c1 (by rw [c2]; grind), Bool.not_false]
  have J149 : (List.range 199).findIdx p ≤ 149 := by
    rcases Nat.lt_or_ge 149 ((List.range 199).findIdx p) with h | h
    · have := List.not_of_lt_findIdx h
      simp at this
      rw [this] at p149; cases p149
    · exact h
  have pJ : p ((List.range 199).findIdx p) = true := by
    have hlt : (List.range 199).findIdx p < (List.range 199).length := by simp; omega
    have := List.findIdx_getElem (w := hlt)
    simpa using this
  have pl : ∀ j, j < (List.range 199).findIdx p → p j = false := fun j hj => by
    have := List.not_of_lt_findIdx hj
    simpa using this
  rw [← hJ] at J149 pJ pl
  have hl : ∀ j, j < Jf x → fcmp .lss .f64 (upF (wd x) j) (nrm .f64 4604930618986332160) = true := fun j hj => by
    have := pl j hj
    rw [hpd] at this
    simpa using this
  have hlJ : fcmp .lss .f64 (upF (wd x) (Jf x)) (nrm .f64 4604930618986332160) = false := by
    rw [hpd] at pJ
    simpa using pJ
  generalize hJJ : Jf x = J at *
  obtain ⟨uJ, vJ⟩ := up J (by omega)
  have lo : 3 / 4 ≤ vN .f64 (upF (wd x) J) := by
    rcases Rat.le_total (a := 3 / 4) (b := vN .f64 (upF (wd x) J)) with h | h
    · exact h
    · by_cases he : vN .f64 (upF (wd x) J) = 3 / 4
      · rw [he]; exact Rat.le_refl
      · have := lss_true uJ c1 (by rw [c2]; grind)
        rw [this] at hlJ; cases hlJ
  have hi : vN .f64 (upF (wd x) J) < 3 / 2 := by
    rcases Nat.eq_zero_or_pos J with h | h
    · subst h
      rw [vJ, show ((0 : Nat) : Int) = 0 from rfl, p2_zero]; grind
    · obtain ⟨i, rfl⟩ : ∃ i, J = i + 1 := ⟨J - 1, by omega⟩
      obtain ⟨ui, vi⟩ := up i (by omega)
      have hlt : vN .f64 (upF (wd x) i) < 3 / 4 := by
        rcases Rat.le_total (a := 3 / 4) (b := vN .f64 (upF (wd x) i)) with h | h
        · have := lss_false ui c1 (by rw [c2]; exact h)
          rw [hl i (by omega)] at this; cases this
        · by_cases he : vN .f64 (upF (wd x) i) = 3 / 4
          · have := lss_false ui c1 (by rw [c2, he]; exact Rat.le_refl)
            rw [hl i (by omega)] at this; cases this
          · grind
      have pj : p2 ((i + 1 : Nat) : Int) = p2 (i : Int) * 2 := by
        rw [show (((i + 1 : Nat) : Int)) = (i : Int) + 1 by omega, p2_add]; rfl
      rw [vJ, pj]
      rw [vi] at hlt
      grind
  have geq : ∀ y, fN .f64 y = true → vN .f64 y < 3 / 2 → fcmp .geq .f64 y (nrm .f64 4609434218613702656) = false := fun y hy hv => by
    rw [cmp_geq hy c3, lss_true hy c3 (by rw [c4]; exact hv)]; rfl
  have LB := log_bd uJ lo (Rat.le_of_lt hi) (show J < 200 by omega)
  obtain ⟨n1, n2⟩ := nw_ok LB.1 (by have := LB.2; have := (show (150 : Rat) < p2 127 by decide +kernel); grind)
  refine ⟨⟨⟨⟨by omega, hl, hlJ, geq _ uJ hi, geq _ w1 (by rw [w2]; grind)⟩, (fcmp_self (fN_not_nan w1)).1, lss_false w1 z1 (by rw [z2, w2]; exact Rat.le_of_lt x0), (gtr_true w1 z1 (by rw [z2, w2]; exact x0)).2, gtr_false w1 c5 (by rw [w2]; grind)⟩,
    (gtr_true hx z3 (by rw [z4]; exact x0)).2, (fcmp_self (fN_not_nan hx)).1, lss_false hx z3 (by rw [z4]; exact Rat.le_of_lt x0), by rw [finF_iff]; exact hx, n1⟩, ?_⟩
  unfold logG logN
  rw [hJJ]
  refine ⟨n2.1, ?_⟩
  have e' : A (vN .f32 (nw (logE (upF (wd x) J) J)) - vN .f64 (logE (upF (wd x) J) J)) ≤ p2 (-24) * A (vN .f64 (logE (upF (wd x) J) J)) + p2 (-150) := n2.2.1
  have t := A_add (vN .f32 (nw (logE (upF (wd x) J) J)) - vN .f64 (logE (upF (wd x) J) J)) (vN .f64 (logE (upF (wd x) J) J))
  rw [show vN .f32 (nw (logE (upF (wd x) J) J)) - vN .f64 (logE (upF (wd x) J) J) + vN .f64 (logE (upF (wd x) J) J) = vN .f32 (nw (logE (upF (wd x) J) J)) by grind] at t
  have mm := Rat.mul_le_mul_of_nonneg_left LB.2 (Rat.le_of_lt (p2_pos (-24)))
  have k : p2 (-24) * 150 + p2 (-150) ≤ 1 := by decide +kernel
  have lb := LB.2
  generalize p2 (-24) = u at *
  generalize p2 (-150) = v at *
  grind
/-- The exponent is not too great. -/
theorem arg_ok {l1 l2 : Nat} (h1 : fN .f32 l1 = true) (b1 : A (vN .f32 l1) ≤ 151) (h2 : fN .f32 l2 = true) (b2 : A (vN .f32 l2) ≤ 151) : fN .f32 (fop .quo .f32 (fop .sub .f32 l1 l2) (nrm .f32 1090519040)) = true ∧ A (vN .f32 (fop .quo .f32 (fop .sub .f32 l1 l2) (nrm .f32 1090519040))) ≤ 40 := by
  have t := A_sub (vN .f32 l1) (vN .f32 l2)
  have t2 : A (vN .f32 l1 - vN .f32 l2) ≤ 302 := by grind
  have R := fop_sub_res h1 h2 (by show _ < p2 127; have := (show (302 : Rat) < p2 127 by decide +kernel); grind)
  have e : A (vN .f32 (fop .sub .f32 l1 l2) - (vN .f32 l1 - vN .f32 l2)) ≤ p2 (-24) * A (vN .f32 l1 - vN .f32 l2) + p2 (-150) := R.2.1
  have k : p2 (-24) * 302 + p2 (-150) ≤ 1 ∧ fN .f32 (nrm .f32 1090519040) = true ∧ vN .f32 (nrm .f32 1090519040) = 8 ∧ (40 : Rat) < p2 100 ∧ p2 (-23) * 38 + p2 (-150) ≤ 1 ∧ A (1 / 8) = 1 / 8 := by decide +kernel
  obtain ⟨k1, k2, k3, k4, k5, k6⟩ := k
  have m := Rat.mul_le_mul_of_nonneg_left t2 (Rat.le_of_lt (p2_pos (-24)))
  have s : A (vN .f32 (fop .sub .f32 l1 l2)) ≤ 303 := by
    have a := A_add (vN .f32 (fop .sub .f32 l1 l2) - (vN .f32 l1 - vN .f32 l2)) (vN .f32 l1 - vN .f32 l2)
    rw [show vN .f32 (fop .sub .f32 l1 l2) - (vN .f32 l1 - vN .f32 l2) + (vN .f32 l1 - vN .f32 l2) = vN .f32 (fop .sub .f32 l1 l2) by grind] at a
    generalize p2 (-24) = u at *
    generalize p2 (-150) = v at *
    grind
  have q : A (vN .f32 (fop .sub .f32 l1 l2) * (1 / 8)) ≤ 38 := by rw [A_mul, k6]; grind
  obtain ⟨f, g⟩ := fop_quo_ok32 R.1 k2 (by rw [k3]; decide) (q := vN .f32 (fop .sub .f32 l1 l2) * (1 / 8)) (by rw [k3]; grind) (by grind)
  refine ⟨f, ?_⟩
  have a := A_add (vN .f32 (fop .quo .f32 (fop .sub .f32 l1 l2) (nrm .f32 1090519040)) - vN .f32 (fop .sub .f32 l1 l2) * (1 / 8)) (vN .f32 (fop .sub .f32 l1 l2) * (1 / 8))
  rw [show vN .f32 (fop .quo .f32 (fop .sub .f32 l1 l2) (nrm .f32 1090519040)) - vN .f32 (fop .sub .f32 l1 l2) * (1 / 8) + vN .f32 (fop .sub .f32 l1 l2) * (1 / 8) = vN .f32 (fop .quo .f32 (fop .sub .f32 l1 l2) (nrm .f32 1090519040)) by grind] at a
  have m2 := Rat.mul_le_mul_of_nonneg_left q (Rat.le_of_lt (p2_pos (-23)))
  generalize p2 (-23) = u at *
  generalize p2 (-150) = v at *
  grind
section
variable {ls : List C2} {X : Nat → Int × Int}
/-- All that the walks need. -/
theorem DX.radOk (h : DX ls X) (h1 : 1 ≤ ls.length) (h4 : ls.length ≤ 4) : RadOk (rootsL (ls.map nc) ls.length) ls.length := by
  obtain ⟨a1, a2, a3, a4, a5, a6⟩ := h.radii h1 h4 rfl rfl
  have ll := fun k => longF_le (a6 k).1 (a6 k).2 (by decide +kernel) (by decide +kernel)
  have lb : ∀ k, vN .f32 (lenF (rootsL (ls.map nc) ls.length) k) ≤ 29 / 20 := fun k => Rat.le_trans (ll k).2.2.2 (by decide +kernel)
  refine ⟨a1, a2, a3, a4, a5, fun k _ => (ll k).1, fun k _ hp => (log_ok hp (lb k)).1, fun k _ hp hq => ?_⟩
  obtain ⟨_, b1, b2⟩ := log_ok hp (lb _)
  obtain ⟨_, c1, c2⟩ := log_ok hq (lb _)
  obtain ⟨d1, d2⟩ := arg_ok b1 b2 c1 c2
  exact exp_ok d1 d2
end
end Go.Proofs.YtfnhddaofllniaaGreat
