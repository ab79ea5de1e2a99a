/- The sine of turns, of the program; on values. Conditions: numbers from 0 to 251 / 1000. -/
import Derived.Test.YtdnoilcfgicnnaaGreatY19
import Derived.Deep.LoopGhost
import Derived.Test.YtdnoilcfgicnnaaGreatY12
import Derived.Test.YtdnoilcfgicnnaaGreatY17
namespace Go.Proofs.YtdnoilcfgicnnaaGreat
open Go Go.RowKit
set_option linter.unusedSimpArgs false
set_option linter.unusedVariables false

/-- A word that is a number from a to b, itself. -/
def Iv (x : Nat) (a b : Rat) : Prop := fN .f64 x = true ∧ a ≤ vN .f64 x ∧ vN .f64 x ≤ b
theorem Iv.in_ {x : Nat} {a b : Rat} (h : Iv x a b) : In x a b := by unfold In; rw [fN_nrm h.1]; exact h
theorem Iv.mono {x : Nat} {a b c d : Rat} (h : Iv x a b) (h1 : c ≤ a) (h2 : b ≤ d) : Iv x c d := ⟨h.1, Rat.le_trans h1 h.2.1, Rat.le_trans h.2.2 h2⟩
theorem In.iv {x : Nat} {a b : Rat} (h : In x a b) : Iv (nrm .f64 x) a b := h
theorem iv_of {op : BinOp} {x y : Nat} {a b : Rat} (h : In (fop op .f64 x y) a b) : Iv (fop op .f64 x y) a b := by
  have : nrm .f64 (fop op .f64 x y) = fop op .f64 x y := by unfold fop; rw [nrm_nrm]
  unfold In at h
  rw [this] at h
  exact h
theorem fop_r {op : BinOp} {x y : Nat} {a b c d : Rat} (hx : Iv x a b) (hy : Iv y c d) : nrm .f64 (fop op .f64 x y) = fop op .f64 (nrm .f64 x) (nrm .f64 y) := by
  rw [fN_nrm hx.1, fN_nrm hy.1]; unfold fop; rw [nrm_nrm]
theorem iv_add {x y : Nat} {a b c d lo hi : Rat} (hx : Iv x a b) (hy : Iv y c d) (h1 : -64 ≤ a + c) (h2 : b + d ≤ 64) (hlo : lo ≤ a + c - e0) (hhi : b + d + e0 ≤ hi) : Iv (fop .add .f64 x y) lo hi := iv_of (in_add hx.in_ hy.in_ (fop_r hx hy) h1 h2 hlo hhi)
theorem iv_sub {x y : Nat} {a b c d lo hi : Rat} (hx : Iv x a b) (hy : Iv y c d) (h1 : -64 ≤ a - d) (h2 : b - c ≤ 64) (hlo : lo ≤ a - d - e0) (hhi : b - c + e0 ≤ hi) : Iv (fop .sub .f64 x y) lo hi := iv_of (in_sub hx.in_ hy.in_ (fop_r hx hy) h1 h2 hlo hhi)
theorem iv_sub0 {x y : Nat} {a b c d hi : Rat} (hx : Iv x a b) (hy : Iv y c d) (h0 : d ≤ a) (h2 : b - c ≤ 64) (hhi : b - c + e0 ≤ hi) : Iv (fop .sub .f64 x y) 0 hi := iv_of (in_sub0 hx.in_ hy.in_ (fop_r hx hy) h0 h2 hhi)
theorem iv_mul {x y : Nat} {a b c d lo hi : Rat} (hx : Iv x a b) (hy : Iv y c d) (ha : 0 ≤ a) (hc : 0 ≤ c) (h2 : b * d ≤ 64) (hlo : lo ≤ a * c - e0 ∨ lo = 0) (hhi : b * d + e0 ≤ hi) : Iv (fop .mul .f64 x y) lo hi := iv_of (in_mul hx.in_ hy.in_ (fop_r hx hy) ha hc h2 hlo hhi)
theorem iv_quo {x y : Nat} {a b c d lo hi : Rat} (hx : Iv x a b) (hy : Iv y c d) (ha : 0 ≤ a) (hc : 0 < c) (hlo : (lo + e0) * d ≤ a ∨ lo = 0) (hlo0 : 0 ≤ lo) (hhi : b ≤ (hi - e0) * c) (hhi0 : e0 ≤ hi) (h64 : hi ≤ 64) : Iv (fop .quo .f64 x y) lo hi := iv_of (in_quo hx.in_ hy.in_ (fop_r hx hy) ha hc hlo hlo0 hhi hhi0 h64)

/-- The constants of a round of the sine's sum: 2k (2k + 1), k = 8 − j. -/
def kF (j : Nat) : Nat := nrm .f64 (floatOfInt .f64 ((8 - j : Nat) : Int))
def cK (j : Nat) : Nat := nrm .f64 (floatOfInt .f64 ((2 * (8 - j) * (2 * (8 - j) + 1) : Nat) : Int))
theorem kF_test : ∀ j, j < 8 → fcmp .geq .f64 (kF j) (nrm .f64 4607182418800017408) = true := by decide +kernel
theorem kF_last : fcmp .geq .f64 (kF 8) (nrm .f64 4607182418800017408) = false := by decide +kernel
theorem kF_next : ∀ j, j < 8 → fop .sub .f64 (kF j) (nrm .f64 4607182418800017408) = kF (j + 1) := by decide +kernel
theorem kF_const : ∀ j, j < 8 → fop .mul .f64 (fop .mul .f64 (nrm .f64 4611686018427387904) (kF j)) (fop .add .f64 (fop .mul .f64 (nrm .f64 4611686018427387904) (kF j)) (nrm .f64 4607182418800017408)) = cK j := by decide +kernel
theorem kF_zero : nrm .f64 4620693217682128896 = kF 0 := by decide +kernel
theorem cK_iv : ∀ j, j < 8 → fN .f64 (cK j) = true ∧ 6 ≤ vN .f64 (cK j) ∧ vN .f64 (cK j) ≤ 300 := by decide +kernel
theorem c1_iv : Iv (nrm .f64 4607182418800017408) 1 1 := by unfold Iv; decide +kernel
theorem c2pi_iv : Iv (nrm .f64 4618760256179416344) (62831 / 10000) (62832 / 10000) := by unfold Iv; decide +kernel
theorem chalf_iv : Iv (nrm .f64 4602678819172646912) (1 / 2) (1 / 2) := by unfold Iv; decide +kernel
theorem cquart_iv : Iv (nrm .f64 4598175219545276416) (1 / 4) (1 / 4) := by unfold Iv; decide +kernel
/-- A range of turns and what the sine is there. -/
structure Rng (a b lo hi : Rat) : Prop where
  a0 : 0 ≤ a
  az : a = 0 ∨ 1 / 100 ≤ a
  b1 : b ≤ 251 / 1000
  fold : b ≤ 1 / 4 ∨ (a ≤ 1 / 2 - b - e0 ∧ 1 / 4 + e0 ≤ b)
  zlo : lo ≤ (a * (62831 / 10000) - e0) * (585 / 1000) - e0 ∨ (lo = 0 ∧ a = 0)
  zhi : (b * (62832 / 10000) + e0) * (10001 / 10000) + e0 ≤ hi
theorem rng_small : Rng 0 (31 / 1000) 0 (195 / 1000) := ⟨by decide +kernel, by decide +kernel, by decide +kernel, by decide +kernel, by decide +kernel, by decide +kernel⟩
theorem rng_near : Rng (219 / 1000) (251 / 1000) (804 / 1000) (158 / 100) := ⟨by decide +kernel, by decide +kernel, by decide +kernel, by decide +kernel, by decide +kernel, by decide +kernel⟩
def zS (f : Nat) : Nat := fop .mul .f64 f (nrm .f64 4618760256179416344)
def uS (f : Nat) : Nat := fop .mul .f64 (zS f) (zS f)
theorem e0v : e0 = 1 / 1099511627776 := rfl
theorem zS_iv {f : Nat} {a b lo hi : Rat} (R : Rng a b lo hi) (h : Iv f a b) : Iv (zS f) (if a = 0 then 0 else a * (62831 / 10000) - e0) (b * (62832 / 10000) + e0) ∧ Iv (uS f) 0 (2488 / 1000) := by
  have a0 := R.a0
  have b1 := R.b1
  have ab : a ≤ b := Rat.le_trans h.2.1 h.2.2
  have ev := e0v
  have zb : b * (62832 / 10000) + e0 ≤ 15771 / 10000 := by
    have k := Rat.mul_le_mul_of_nonneg_right b1 (show (0 : Rat) ≤ 62832 / 10000 by decide +kernel)
    have k2 : 251 / 1000 * (62832 / 10000) + e0 ≤ 15771 / 10000 := by decide +kernel
    generalize e0 = t at *
    clear ev
    grind
  have z1 : Iv (zS f) (if a = 0 then 0 else a * (62831 / 10000) - e0) (b * (62832 / 10000) + e0) := iv_mul h c2pi_iv a0 (by decide +kernel) (by grind) (by split <;> grind) (Rat.le_refl)
  have z0 : Iv (zS f) 0 (b * (62832 / 10000) + e0) := iv_mul h c2pi_iv a0 (by decide +kernel) (by grind) (.inr rfl) (Rat.le_refl)
  refine ⟨z1, ?_⟩
  have z2 := z0.mono (Rat.le_refl) zb
  exact iv_mul z2 z2 (by decide) (by decide) (by decide +kernel) (.inr rfl) (by decide +kernel)
theorem pS_iv {u p c : Nat} (hu : Iv u 0 (2488 / 1000)) (hp : Iv p (585 / 1000) (10001 / 10000)) (hc : Iv c 6 300) : Iv (fop .sub .f64 (nrm .f64 4607182418800017408) (fop .quo .f64 (fop .mul .f64 u p) c)) (585 / 1000) (10001 / 10000) := by
  have h1 : Iv (fop .mul .f64 u p) 0 (248826 / 100000) := iv_mul hu hp (by decide) (by decide +kernel) (by decide +kernel) (.inr rfl) (by decide +kernel)
  have h2 : Iv (fop .quo .f64 (fop .mul .f64 u p) c) 0 (4148 / 10000) := iv_quo h1 hc (by decide) (by decide +kernel) (.inr rfl) (by decide) (by decide +kernel) (by decide +kernel) (by decide +kernel)
  exact iv_sub c1_iv h2 (by decide +kernel) (by decide +kernel) (by decide +kernel) (by decide +kernel)
theorem rS_iv {f p : Nat} {a b lo hi : Rat} (R : Rng a b lo hi) (h : Iv f a b) (hp : Iv p (585 / 1000) (10001 / 10000)) : Iv (fop .mul .f64 (zS f) p) lo hi := by
  have a0 := R.a0
  have b1 := R.b1
  have ev := e0v
  obtain ⟨z1, _⟩ := zS_iv R h
  have zb : b * (62832 / 10000) + e0 ≤ 15771 / 10000 := by
    have k := Rat.mul_le_mul_of_nonneg_right b1 (show (0 : Rat) ≤ 62832 / 10000 by decide +kernel)
    have k2 : 251 / 1000 * (62832 / 10000) + e0 ≤ 15771 / 10000 := by decide +kernel
    generalize e0 = t at *
    clear ev z1
    grind
  have az := R.az
  have h0 : 0 ≤ (if a = 0 then (0 : Rat) else a * (62831 / 10000) - e0) := by
    split
    · exact Rat.le_refl
    · rename_i hne
      rcases az with h | h
      · exact absurd h hne
      · have k2 : e0 ≤ 1 / 100 * (62831 / 10000) := by decide +kernel
        have k := Rat.mul_le_mul_of_nonneg_right h (show (0 : Rat) ≤ 62831 / 10000 by decide +kernel)
        generalize e0 = t at *
        clear ev z1 zb
        grind
  have h64 : (b * (62832 / 10000) + e0) * (10001 / 10000) ≤ 64 := Rat.le_trans (Rat.mul_le_mul_of_nonneg_right zb (by decide +kernel)) (by decide +kernel)
  refine iv_mul z1 hp h0 (by decide +kernel) h64 ?_ R.zhi
  rcases R.zlo with h | ⟨h1, h2⟩
  · by_cases ha : a = 0
    · rw [if_pos ha]
      rw [ha] at h
      left
      refine Rat.le_trans h ?_
      decide +kernel
    · rw [if_neg ha]; exact .inl h
  · exact .inr h1

def RetI (a b : Rat) (w : World) (e : Ending) (w' : World) : Prop := ∃ r m, e = .returned (.float .f64 r) ∧ In r a b ∧ w' = w.drewN m
set_option maxRecDepth 100000 in
set_option maxHeartbeats 800000 in
theorem sine_impl_low {a b lo hi : Rat} (R : Rng a b lo hi) (y : Nat) (w : World) (h : In y a b) (hq : vN .f64 (nrm .f64 y) ≤ 1 / 4) : Calls Tryz.prog 103 #[.float .f64 y] w (RetI lo hi w) := by
  have C1 := Lib.hid (c1_iv.mono (show (585 / 1000 : Rat) ≤ 1 by decide +kernel) (show (1 : Rat) ≤ 10001 / 10000 by decide +kernel))
  have a0 := R.a0
  have b1 := R.b1
  have y0 : 0 ≤ vN .f64 (nrm .f64 y) := Rat.le_trans a0 h.2.1
  have yA : A (vN .f64 (nrm .f64 y)) < 1 := by rw [A_of_nonneg y0]; have := h.2.2; grind
  have HY := Lib.hid h
  have HP := Lib.hid (fun w1 => part_impl y w1 h.1 yA)
  have HA := Lib.hid y0
  have HQ := Lib.hid hq
  clear h y0 yA hq
  go_enter Tryz.func103, Tryz.ntmps103
  go_wp2_with fail
  refine (HP.out _).mono ?_
  rintro e w1 ⟨f, m1, rfl, rfl, hf1, hf2, _⟩
  have hfv := hf2 HA.out
  have hG : fcmp .geq .f64 (nrm .f64 f) (nrm .f64 4602678819172646912) = false := by
    have hv := chalf_iv.2.2
    have hv2 := chalf_iv.2.1
    rw [cmp_geq hf1 chalf_iv.1, cmp_lss hf1 chalf_iv.1, hfv]
    have := HY.out.2.2
    simp; grind
  have hF : fcmp .gtr .f64 (nrm .f64 f) (nrm .f64 4598175219545276416) = false := by
    have hv := cquart_iv.2.2
    have hv2 := cquart_iv.2.1
    rw [cmp_gtr hf1 cquart_iv.1, hfv]
    have := HQ.out
    simp; grind
  have Iff := Lib.hid (show Iv (nrm .f64 f) a b from ⟨hf1, by rw [hfv]; exact HY.out.2.1, by rw [hfv]; exact HY.out.2.2⟩)
  have HF := Lib.hid Iff.out
  have HU := Lib.hid (zS_iv R HF.out).2
  clear hf1 hf2 hfv
  go_wp2_with (with_reducible refine wpList_fop rfl _ _ _ _ _ rfl rfl .f64 _ _ rfl rfl ?_; intro r m hr)
  go_loopg [7, 8] 8 (fun g p k wr => ∃ kr, k = .float .f64 kr ∧ nrm .f64 kr = kF (8 - g) ∧ g ≤ 8 ∧ ∃ pr m, p = .float .f64 pr ∧ Iv (nrm .f64 pr) (585 / 1000) (10001 / 10000) ∧ wr = w.drewN m)
  case atStart => exact ⟨_, rfl, kF_zero, by omega, _, _, rfl, C1.out, rfl⟩
  case round =>
    obtain ⟨kr, rfl, hk, hj, pr, m, rfl, hp, rfl⟩ := hrel
    have Hp := Lib.hid hp
    clear hp
    by_cases hlt : 0 < gk
    · obtain ⟨j, rfl⟩ : ∃ j, gk = 8 - j := ⟨8 - gk, by omega⟩
      have hj8 : j < 8 := by omega
      rw [show 8 - (8 - j) = j by omega] at hk
      have ht := kF_test j hj8
      have Hn := Lib.hid (kF_next j hj8)
      have Hc := Lib.hid (kF_const j hj8)
      have Hi := Lib.hid (pS_iv HU.out Hp.out (cK_iv j hj8))
      go_wp2_with (with_reducible refine wpList_fop rfl _ _ _ _ _ rfl rfl .f64 _ _ rfl rfl ?_; intro r m hr)
      go_roundg (8 - (j + 1))
      case measure => omega
      case rel =>
        refine ⟨_, rfl, ?_, by omega, _, _, rfl, ?_, by first | rfl | (simp only [World.drewN_drewN]; rfl)⟩
        · rw [show 8 - (8 - (j + 1)) = j + 1 by omega, ← Hn.out]; simp only [*]
        · have := Hi.out
          rw [← Hc.out] at this
          simp only [uS, zS] at this
          simp only [*]
    · obtain rfl : gk = 0 := by omega
      have ht := kF_last
      have hk2 : nrm .f64 kr = kF 8 := hk
      have Hi := Lib.hid (rS_iv R HF.out Hp.out)
      clear hk
      go_wp2_with (with_reducible refine wpList_fop rfl _ _ _ _ _ rfl rfl .f64 _ _ rfl rfl ?_; intro r m hr)
      go_ret
      refine ⟨_, _, rfl, ?_, by first | rfl | (simp only [World.drewN_drewN]; rfl)⟩
      have := Hi.out
      simp only [zS] at this
      unfold In
      have hk := this
      clear this
      simp only [*]
      first | done | exact hk
set_option maxRecDepth 100000 in
set_option maxHeartbeats 800000 in
theorem sine_impl_far {a b lo hi : Rat} (R : Rng a b lo hi) (y : Nat) (w : World) (h : In y a b) (hq : 1 / 4 < vN .f64 (nrm .f64 y)) : Calls Tryz.prog 103 #[.float .f64 y] w (RetI lo hi w) := by
  have C1 := Lib.hid (c1_iv.mono (show (585 / 1000 : Rat) ≤ 1 by decide +kernel) (show (1 : Rat) ≤ 10001 / 10000 by decide +kernel))
  have a0 := R.a0
  have b1 := R.b1
  have y0 : 0 ≤ vN .f64 (nrm .f64 y) := Rat.le_trans a0 h.2.1
  have yA : A (vN .f64 (nrm .f64 y)) < 1 := by rw [A_of_nonneg y0]; have := h.2.2; grind
  have HY := Lib.hid h
  have HP := Lib.hid (fun w1 => part_impl y w1 h.1 yA)
  have HA := Lib.hid y0
  have HQ := Lib.hid hq
  clear h y0 yA hq
  go_enter Tryz.func103, Tryz.ntmps103
  go_wp2_with fail
  refine (HP.out _).mono ?_
  rintro e w1 ⟨f, m1, rfl, rfl, hf1, hf2, _⟩
  have hfv := hf2 HA.out
  have hG : fcmp .geq .f64 (nrm .f64 f) (nrm .f64 4602678819172646912) = false := by
    have hv := chalf_iv.2.2
    have hv2 := chalf_iv.2.1
    rw [cmp_geq hf1 chalf_iv.1, cmp_lss hf1 chalf_iv.1, hfv]
    have := HY.out.2.2
    simp; grind
  have hF : fcmp .gtr .f64 (nrm .f64 f) (nrm .f64 4598175219545276416) = true := by
    have hv := cquart_iv.2.2
    have hv2 := cquart_iv.2.1
    rw [cmp_gtr hf1 cquart_iv.1, hfv]
    have := HQ.out
    simp; grind
  have Iff := Lib.hid (show Iv (nrm .f64 f) a b from ⟨hf1, by rw [hfv]; exact HY.out.2.1, by rw [hfv]; exact HY.out.2.2⟩)
  have HF := Lib.hid (show Iv (fop .sub .f64 (nrm .f64 4602678819172646912) (nrm .f64 f)) a b from by
    have h2 : Iv (nrm .f64 f) (1 / 4) b := ⟨hf1, by rw [hfv]; exact Rat.le_of_lt HQ.out, by rw [hfv]; exact HY.out.2.2⟩
    have hb : b ≤ 251 / 1000 := b1
    rcases R.fold with hh | ⟨h3, h4⟩
    · exact absurd (Rat.le_trans h2.2.1 h2.2.2) (by have := HQ.out; have := HY.out.2.2; grind)
    · have ev := e0v
      exact iv_sub chalf_iv h2 (by grind) (by grind) (by grind) (by grind))
  have HU := Lib.hid (zS_iv R HF.out).2
  clear hf1 hf2 hfv
  go_wp2_with (with_reducible refine wpList_fop rfl _ _ _ _ _ rfl rfl .f64 _ _ rfl rfl ?_; intro r m hr)
  go_loopg [7, 8] 8 (fun g p k wr => ∃ kr, k = .float .f64 kr ∧ nrm .f64 kr = kF (8 - g) ∧ g ≤ 8 ∧ ∃ pr m, p = .float .f64 pr ∧ Iv (nrm .f64 pr) (585 / 1000) (10001 / 10000) ∧ wr = w.drewN m)
  case atStart => exact ⟨_, rfl, kF_zero, by omega, _, _, rfl, C1.out, rfl⟩
  case round =>
    obtain ⟨kr, rfl, hk, hj, pr, m, rfl, hp, rfl⟩ := hrel
    have Hp := Lib.hid hp
    clear hp
    by_cases hlt : 0 < gk
    · obtain ⟨j, rfl⟩ : ∃ j, gk = 8 - j := ⟨8 - gk, by omega⟩
      have hj8 : j < 8 := by omega
      rw [show 8 - (8 - j) = j by omega] at hk
      have ht := kF_test j hj8
      have Hn := Lib.hid (kF_next j hj8)
      have Hc := Lib.hid (kF_const j hj8)
      have Hi := Lib.hid (pS_iv HU.out Hp.out (cK_iv j hj8))
      go_wp2_with (with_reducible refine wpList_fop rfl _ _ _ _ _ rfl rfl .f64 _ _ rfl rfl ?_; intro r m hr)
      go_roundg (8 - (j + 1))
      case measure => omega
      case rel =>
        refine ⟨_, rfl, ?_, by omega, _, _, rfl, ?_, by first | rfl | (simp only [World.drewN_drewN]; rfl)⟩
        · rw [show 8 - (8 - (j + 1)) = j + 1 by omega, ← Hn.out]; simp only [*]
        · have := Hi.out
          rw [← Hc.out] at this
          simp only [uS, zS] at this
          simp only [*]
    · obtain rfl : gk = 0 := by omega
      have ht := kF_last
      have hk2 : nrm .f64 kr = kF 8 := hk
      have Hi := Lib.hid (rS_iv R HF.out Hp.out)
      clear hk
      go_wp2_with (with_reducible refine wpList_fop rfl _ _ _ _ _ rfl rfl .f64 _ _ rfl rfl ?_; intro r m hr)
      go_ret
      refine ⟨_, _, rfl, ?_, by first | rfl | (simp only [World.drewN_drewN]; rfl)⟩
      have := Hi.out
      simp only [zS] at this
      unfold In
      have hk := this
      clear this
      simp only [*]
      first | done | exact hk
set_option maxRecDepth 100000 in
set_option maxHeartbeats 400000 in
theorem sine_impl {a b lo hi : Rat} (R : Rng a b lo hi) (y : Nat) (w : World) (h : In y a b) : Calls Tryz.prog 103 #[.float .f64 y] w (RetI lo hi w) := by
  rcases Rat.le_total (a := vN .f64 (nrm .f64 y)) (b := 1 / 4) with hq | hq
  · exact sine_impl_low R y w h hq
  · by_cases he : vN .f64 (nrm .f64 y) = 1 / 4
    · exact sine_impl_low R y w h (by rw [he]; exact Rat.le_refl)
    · exact sine_impl_far R y w h (by grind)
end Go.Proofs.YtdnoilcfgicnnaaGreat

/- Absolute values and what is no number, of Go's library, on values. Conditions: words of 64 bits. -/
namespace Go.Proofs.YtdnoilcfgicnnaaGreat
open Go Go.RowKit
set_option linter.unusedSimpArgs false
set_option linter.unusedVariables false

theorem andNot_any (y : Nat) (h : y < 18446744073709551616) : bits .andNot .u64 (y : Int) 9223372036854775808 = ((y % 9223372036854775808 : Nat) : Int) := by
  have h1 := u64_andNot_nat y 9223372036854775808 (by omega) (by omega)
  rw [show ((9223372036854775808 : Nat) : Int) = 9223372036854775808 from rfl] at h1
  rw [h1]
  congr 1
  have h2 : y &&& (18446744073709551615 - 9223372036854775808) = y % 2 ^ 63 := by
    rw [show (18446744073709551615 - 9223372036854775808 : Nat) = 2 ^ 63 - 1 by decide]
    exact Nat.and_two_pow_sub_one_eq_mod y 63
  rw [h2]
def absW (y : Nat) : Nat := y % 9223372036854775808
theorem abs_impl (y : Nat) (w : World) (h : y < 18446744073709551616) : Calls Tryz.prog 114 #[.float .f64 y] w fun e w' => e = .returned (.float .f64 (absW y)) ∧ w = w' := by
  have hb := run_bits
  have hf := run_frombits
  have Ha := Lib.hid (andNot_any y h)
  clear h
  go_enter Tryz.func114, Tryz.ntmps114
  go_wp2
  go_ret
  exact ⟨by simp [Ha.out, absW]; omega, rfl⟩
theorem absW_val {y : Nat} (h : fN .f64 y = true) : fN .f64 (absW y) = true ∧ vN .f64 (absW y) = A (vN .f64 y) := by
  obtain ⟨s, m, e, hd⟩ := isNum_ex h
  have e1' : Ieee.double.signWeight = 9223372036854775808 := double_facts.1
  have key : FloatKind.f64.decode (absW y) = .number false m e := by
    have hd' : Ieee.double.read y = .number s m e := hd
    show Ieee.double.read (y % 9223372036854775808) = _
    unfold Ieee.Format.read at hd' ⊢
    dsimp only at hd' ⊢
    rw [e1'] at hd' ⊢
    have h1 : y % 9223372036854775808 / 9223372036854775808 % 2 = 0 := by omega
    have h2 : y % 9223372036854775808 % 9223372036854775808 = y % 9223372036854775808 := by omega
    rw [h1, h2]
    split at hd'
    · rename_i hh; rw [if_pos hh]; cases hd'; rfl
    · rename_i hh
      rw [if_neg hh]
      split at hd'
      · rename_i hh2; rw [if_pos hh2]; cases hd'; rfl
      · split at hd' <;> cases hd'
  refine ⟨by unfold fN; rw [key]; rfl, ?_⟩
  unfold vN
  rw [key, hd, A_val]
  rfl
theorem enc_lt (s : Bool) (m : Nat) (e : Int) : FloatKind.f64.encode (.number s m e) < 18446744073709551616 := by
  obtain ⟨r, h1, h2⟩ := nearest_rung Ieee.double s m e
  show Ieee.double.nearest s m e < _
  rw [h1]
  have e1' : Ieee.double.signWeight = 9223372036854775808 := double_facts.1
  have e3 : Ieee.double.infRung = 9218868437227405312 := double_facts.2.2.1
  unfold Ieee.Format.word
  rw [e1']
  rw [e3] at h2
  split <;> omega
theorem wd_lt {x : Nat} (h : fN .f32 x = true) (ht : A (vN .f32 x) < p2 1023) : wd x < 18446744073709551616 := by
  obtain ⟨s, m, e, hd, h1, h2⟩ := digits .f32 x h
  have hv : vN .f32 x = valD (.number s m e) := by unfold vN; rw [hd]
  have hw := write_ok .f64 (.number s m e) rfl (by rw [← hv]; exact ht)
  have hnum := (write_ok .f64 (.number s m e) rfl (by rw [← hv]; exact ht)).1
  have he : wd x = nrm .f64 (FloatKind.f64.encode (.number s m e)) := by
    unfold wd fcvt floatToFloatBits
    rw [if_neg (by decide), hd]
    dsimp only
    rw [isInf_of_num hnum]
    rfl
  rw [he, fN_nrm hw.1]
  exact enc_lt s m e
theorem nan_bits : fN .f64 9221120237041090561 = false := by decide +kernel
theorem nan_impl (w : World) : Calls Tryz.prog 100 #[] w fun e w' => ∃ x, e = .returned (.float .f64 x) ∧ w = w' ∧ fN .f64 (nrm .f64 x) = false := by
  have hf := run_frombits
  go_enter Tryz.func100, Tryz.ntmps100
  go_wp2
  go_ret
  exact ⟨_, rfl, rfl, by decide +kernel⟩
/-- An absolute value, and whether it is huge. -/
theorem isHuge_small (y : Nat) (w : World) (hy : y < 18446744073709551616) (h : fN .f64 (nrm .f64 y) = true) (hA : A (vN .f64 (nrm .f64 y)) < 1) : Calls Tryz.prog 101 #[.float .f64 y] w fun e w' => e = .returned (.bool false) ∧ w = w' := by
  have hn : nrm .f64 y = y := (raw_of rfl h).symm
  rw [hn] at h hA
  obtain ⟨a1, a2⟩ := absW_val h
  have H := Lib.hid hy
  have hc : fcmp .geq .f64 (nrm .f64 (absW y)) (nrm .f64 4841369599423283200) = false := by
    have f1 : fN .f64 4841369599423283200 = true := by decide +kernel
    have v1 : (1 : Rat) ≤ vN .f64 4841369599423283200 := by decide +kernel
    rw [fN_nrm a1, fN_nrm f1, cmp_geq a1 f1, cmp_lss a1 f1, a2]
    simp; grind
  clear hy h hA hn a1 a2
  go_enter Tryz.func101, Tryz.ntmps101
  go_wp2_with (go_at_call 114; refine (abs_impl _ _ H.out).mono ?_; rintro e w' ⟨rfl, rfl⟩)
  go_ret
  exact ⟨rfl, rfl⟩
end Go.Proofs.YtdnoilcfgicnnaaGreat

/- The phase of turns, of the program; on values. Conditions: turns of at most 306 / 10000, either way. -/
namespace Go.Proofs.YtdnoilcfgicnnaaGreat
open Go Go.RowKit
set_option linter.unusedSimpArgs false
set_option linter.unusedVariables false

/-- A phase near 1. -/
def RetPh (w : World) (e : Ending) (w' : World) : Prop := ∃ a b m, e = .returned (.complex .f32 a b) ∧ PhOk (nc (a, b)) ∧ w' = w.drewN m
theorem self_sub {y : Nat} (h : fN .f64 y = true) : fcmp .neq .f64 (fop .sub .f64 y y) 0 = false := by
  have f0 : fN .f64 0 = true := by decide +kernel
  have v0 : vN .f64 0 = 0 := by decide +kernel
  have e : vN .f64 y - vN .f64 y = 0 := by grind
  have R := fop_sub_res (k := .f64) h h (by rw [e, A_zero]; exact p2_pos _)
  rw [e] at R
  have hz := R.2.2 0 0 (by rw [A_zero, show ((0 : Nat) : Rat) = 0 from rfl]; grind) (by decide) (by decide)
  rw [cmp_neq R.1 f0, cmp_eql R.1 f0, hz, v0]
  simp
theorem le_of_parts2 {x y : Rat} (h1 : x ≤ y) (h2 : -x ≤ y) : A x ≤ y := A_le.2 ⟨h1, h2⟩
theorem ph_mk {a b x y : Nat} {p q : Rat} (ha : nrm .f32 a = nw (nrm .f64 x)) (hb : nrm .f32 b = nw (nrm .f64 y)) (hx : In x (804 / 1000) (158 / 100)) (hy : In y p q) (hp : -(196 / 1000) ≤ p) (hq : q ≤ 196 / 1000) : PhOk (nc (a, b)) := by
  obtain ⟨_, f1, l1, u1'⟩ := in_nw hx (by decide +kernel) (by decide +kernel)
  obtain ⟨_, f2, l2, u2⟩ := in_nw hy (by grind) (by grind)
  refine ⟨⟨by show fN .f32 (nrm .f32 a) = true; rw [ha]; exact f1, by show fN .f32 (nrm .f32 b) = true; rw [hb]; exact f2⟩, ?_, ?_, ?_⟩
  · show _ ≤ vN .f32 (nrm .f32 a); rw [ha]; grind
  · show vN .f32 (nrm .f32 a) ≤ _; rw [ha]; grind
  · show A (vN .f32 (nrm .f32 b)) ≤ _; rw [hb]; exact le_of_parts2 (by grind) (by grind)

theorem in_zero : In 0 0 0 := in_const (by decide +kernel) (by decide +kernel) (by decide +kernel)
theorem cquart_in : In 4598175219545276416 (1 / 4) (1 / 4) := in_const (by decide +kernel) (by decide +kernel) (by decide +kernel)
/-- What the loop over quarters keeps. -/
def PhJ (f q : Nat) : Prop := (q = 0 ∧ In f 0 (306 / 10000)) ∨ (q ≤ 3 ∧ In f (9694 / 10000 - (q : Rat) / 4 - ((q : Rat) + 1) * e0) (1 - (q : Rat) / 4 + ((q : Rat) + 1) * e0)) ∨ (q = 4 ∧ In f 0 (1 / 1000))
theorem phJ_start {y f : Nat} (h : In y (-(306 / 10000)) (306 / 10000)) (hf1 : fN .f64 (nrm .f64 f) = true) (hf2 : 0 ≤ vN .f64 (nrm .f64 y) → vN .f64 (nrm .f64 f) = vN .f64 (nrm .f64 y)) (hf3 : vN .f64 (nrm .f64 y) < 0 → A (vN .f64 (nrm .f64 f) - (vN .f64 (nrm .f64 y) + 1)) ≤ e0) : PhJ f 0 := by
  by_cases h0 : 0 ≤ vN .f64 (nrm .f64 y)
  · refine .inl ⟨rfl, hf1, ?_, ?_⟩
    · rw [hf2 h0]; exact h0
    · rw [hf2 h0]; exact h.2.2
  · have h3 := hf3 (by grind)
    have h4 := le_A (vN .f64 (nrm .f64 f) - (vN .f64 (nrm .f64 y) + 1))
    have h5 := h.2.1
    refine .inr (.inl ⟨by decide, hf1, ?_, ?_⟩)
    · rw [show ((0 : Nat) : Rat) = 0 from rfl]; grind
    · rw [show ((0 : Nat) : Rat) = 0 from rfl]; grind
theorem PhJ.le {f q : Nat} (h : PhJ f q) : q ≤ 4 := by rcases h with ⟨h, _⟩ | ⟨h, _⟩ | ⟨h, _⟩ <;> omega
theorem PhJ.num {f q : Nat} (h : PhJ f q) : fN .f64 (nrm .f64 f) = true := by rcases h with ⟨_, h⟩ | ⟨_, h⟩ | ⟨_, h⟩ <;> exact h.1
theorem PhJ.geq_t {f q : Nat} (h : PhJ f q) (hg : 1 / 4 ≤ vN .f64 (nrm .f64 f)) : fcmp .geq .f64 (nrm .f64 f) (nrm .f64 4598175219545276416) = true := by
  have a := cquart_in
  rw [cmp_geq h.num a.1, cmp_lss h.num a.1]
  have := a.2
  simp; grind
theorem PhJ.geq_f {f q : Nat} (h : PhJ f q) (hg : ¬ 1 / 4 ≤ vN .f64 (nrm .f64 f)) : fcmp .geq .f64 (nrm .f64 f) (nrm .f64 4598175219545276416) = false := by
  have a := cquart_in
  rw [cmp_geq h.num a.1, cmp_lss h.num a.1]
  have := a.2
  simp; grind
theorem PhJ.next {f q : Nat} (h : PhJ f q) (hg : 1 / 4 ≤ vN .f64 (nrm .f64 f)) : q ≤ 3 ∧ ∀ r, nrm .f64 r = fop .sub .f64 (nrm .f64 f) (nrm .f64 4598175219545276416) → PhJ r (q + 1) := by
  have ev := e0v
  rcases h with ⟨h, a⟩ | ⟨h, a⟩ | ⟨h, a⟩
  · exact absurd (Rat.le_trans hg a.2.2) (by decide +kernel)
  · refine ⟨h, fun r hr => ?_⟩
    by_cases h3 : q = 3
    · subst h3
      have a2 : In f (1 / 4) (2501 / 10000) := ⟨a.1, hg, Rat.le_trans a.2.2 (by decide +kernel)⟩
      exact .inr (.inr ⟨rfl, (in_sub0 a2 cquart_in hr (Rat.le_refl) (by decide +kernel) (hi := 1 / 1000) (by decide +kernel))⟩)
    · refine .inr (.inl ⟨by omega, ?_⟩)
      rcases (by omega : q = 0 ∨ q = 1 ∨ q = 2) with rfl | rfl | rfl <;> exact in_sub a cquart_in hr (by decide +kernel) (by decide +kernel) (by decide +kernel) (by decide +kernel)
  · exact absurd (Rat.le_trans hg a.2.2) (by decide +kernel)
theorem PhJ.exit {f q : Nat} (h : PhJ f q) (hg : ¬ 1 / 4 ≤ vN .f64 (nrm .f64 f)) :
    ((q = 0 ∨ q = 4) ∧ (∀ r, nrm .f64 r = fop .sub .f64 (nrm .f64 4598175219545276416) (nrm .f64 f) → In r (219 / 1000) (251 / 1000)) ∧ In f 0 (31 / 1000)) ∨
    (q = 3 ∧ (∀ r, nrm .f64 r = fop .sub .f64 (nrm .f64 4598175219545276416) (nrm .f64 f) → In r 0 (31 / 1000)) ∧ In f (219 / 1000) (251 / 1000)) := by
  have ev := e0v
  rcases h with ⟨h, a⟩ | ⟨h, a⟩ | ⟨h, a⟩
  · exact .inl ⟨.inl h, fun r hr => in_sub cquart_in a hr (by decide +kernel) (by decide +kernel) (by decide +kernel) (by decide +kernel), a.mono (Rat.le_refl) (by decide +kernel)⟩
  · have h3 : q = 3 := by
      rcases (by omega : q = 0 ∨ q = 1 ∨ q = 2 ∨ q = 3) with rfl | rfl | rfl | rfl
      · exact absurd (Rat.le_trans (by decide +kernel) a.2.1) hg
      · exact absurd (Rat.le_trans (by decide +kernel) a.2.1) hg
      · exact absurd (Rat.le_trans (by decide +kernel) a.2.1) hg
      · rfl
    subst h3
    have a2 : In f (2193 / 10000) (1 / 4) := ⟨a.1, Rat.le_trans (by decide +kernel) a.2.1, by grind⟩
    exact .inr ⟨rfl, fun r hr => in_sub0 cquart_in a2 hr (Rat.le_refl) (by decide +kernel) (by decide +kernel), a2.mono (by decide +kernel) (by decide +kernel)⟩
  · exact .inl ⟨.inr h, fun r hr => in_sub cquart_in a hr (by decide +kernel) (by decide +kernel) (by decide +kernel) (by decide +kernel), a.mono (Rat.le_refl) (by decide +kernel)⟩
set_option maxRecDepth 100000 in
set_option maxHeartbeats 1600000 in
theorem phasor_impl (y : Nat) (w : World) (hy : y < 18446744073709551616) (h : In y (-(306 / 10000)) (306 / 10000)) : Calls Tryz.prog 76 #[.float .f64 y] w (RetPh w) := by
  have hn : nrm .f64 y = y := h.raw
  have yA : A (vN .f64 (nrm .f64 y)) < 1 := by
    have a := le_of_parts2 h.2.2 (show -vN .f64 (nrm .f64 y) ≤ 306 / 10000 by have := h.2.1; grind)
    grind
  have h1 := self_sub h.1
  rw [hn] at h1
  have n0 := nrm64_0
  have HH := Lib.hid (fun w1 => isHuge_small y w1 hy h.1 yA)
  have HP := Lib.hid (fun w1 => part_impl y w1 h.1 yA)
  have HY := Lib.hid h
  have HS1 := Lib.hid (fun r w1 hr => sine_impl rng_small r w1 hr)
  have HS2 := Lib.hid (fun r w1 hr => sine_impl rng_near r w1 hr)
  clear h yA hy
  go_enter Tryz.func76, Tryz.ntmps76
  go_wp2_with (first | (go_at_call 100; refine (nan_impl _).mono ?_; rintro e w' ⟨xn, rfl, rfl, hxn⟩; have Hxn := Lib.hid (nw_not hxn).1; clear hxn) | (with_reducible refine wpList_nar rfl _ rfl _ rfl Hxn.out ?_; intro rn mn hrn) | (with_reducible refine wpList_fop rfl _ _ _ _ _ rfl rfl .f64 _ _ rfl rfl ?_; intro r m hr) | (go_at_call 101; refine (HH.out _).mono ?_; rintro e w' ⟨rfl, rfl⟩))
  refine (HP.out _).mono ?_
  rintro e w1 ⟨f, m1, rfl, rfl, hf1, hf2, hf3⟩
  have HJ := Lib.hid (phJ_start HY.out hf1 hf2 hf3)
  clear hf1 hf2 hf3 h1 hn
  have N1 := Lib.hid n0
  clear n0
  go_wp2_with fail
  go_loopw [4, 5] (fun fv qv wr => ∃ (f q k : Nat), fv = .float .f64 f ∧ qv = .int .i64 q ∧ PhJ f q ∧ wr = w.drewN k) (fun _ qv _ => 4 - (intOf qv).toNat)
  case atStart => exact ⟨f, 0, _, rfl, rfl, HJ.out, rfl⟩
  case round =>
    obtain ⟨f, q, k, rfl, rfl, hJ, rfl⟩ := hrel
    have HJ2 := Lib.hid hJ
    have hq4 := hJ.le
    by_cases hge : 1 / 4 ≤ vN .f64 (nrm .f64 f)
    · obtain ⟨hq3, hnext⟩ := hJ.next hge
      have hc : fcmp .geq .f64 (nrm .f64 f) (nrm .f64 4598175219545276416) = true := hJ.geq_t hge
      have Hn := Lib.hid hnext
      clear hJ hnext
      go_wp2_with (with_reducible refine wpList_fop rfl _ _ _ _ _ rfl rfl .f64 _ _ rfl rfl ?_; intro r m hr)
      go_roundw
      case rel => exact ⟨r, q + 1, _, rfl, by go_num, Hn.out r hr, by first | rfl | (simp; rfl)⟩
      case measure => simp [intOf]; omega
    · have hc : fcmp .geq .f64 (nrm .f64 f) (nrm .f64 4598175219545276416) = false := hJ.geq_f hge
      rcases hJ.exit hge with ⟨hq, I1, I2⟩ | ⟨hq, I1, I2⟩
      · have H1 := Lib.hid I1
        have H2 := Lib.hid I2
        have hq1 : ((q : Int) == 1) = false := by rcases hq with rfl | rfl <;> rfl
        have hq2 : ((q : Int) == 2) = false := by rcases hq with rfl | rfl <;> rfl
        have hq3 : ((q : Int) == 3) = false := by rcases hq with rfl | rfl <;> rfl
        clear hJ I1 I2
        go_wp2_with (with_reducible refine wpList_fop rfl _ _ _ _ _ rfl rfl .f64 _ _ rfl rfl ?_; intro r m hr)
        refine (HS2.out _ _ (H1.out _ hr)).mono ?_
        rintro e w' ⟨c, mc, rfl, hc1, rfl⟩
        have Hc := Lib.hid hc1
        clear hc1
        go_wp2_with fail
        refine (HS1.out _ _ H2.out).mono ?_
        rintro e w' ⟨s, ms, rfl, hs1, rfl⟩
        have Hs := Lib.hid hs1
        clear hs1
        have Fc := Lib.hid (in_nw Hc.out (by decide +kernel) (by decide +kernel)).1
        have Fs := Lib.hid (in_nw Hs.out (by decide +kernel) (by decide +kernel)).1
        go_wp2_with (first | (with_reducible refine wpList_nar rfl _ rfl _ rfl Fc.out ?_; intro r1 mr1 hr1) | (with_reducible refine wpList_nar rfl _ rfl _ rfl Fs.out ?_; intro r2 mr2 hr2))
        go_ret
        exact ⟨_, _, _, rfl, ph_mk hr1 hr2 Hc.out Hs.out (by decide +kernel) (by decide +kernel), by first | rfl | (simp; rfl)⟩
      · have H1 := Lib.hid I1
        have H2 := Lib.hid I2
        subst hq
        clear hJ I1 I2
        go_wp2_with (with_reducible refine wpList_fop rfl _ _ _ _ _ rfl rfl .f64 _ _ rfl rfl ?_; intro r m hr)
        refine (HS1.out _ _ (H1.out _ hr)).mono ?_
        rintro e w' ⟨c, mc, rfl, hc1, rfl⟩
        have Hc := Lib.hid hc1
        clear hc1 hr
        go_wp2_with fail
        refine (HS2.out _ _ H2.out).mono ?_
        rintro e w' ⟨s, ms, rfl, hs1, rfl⟩
        have Hs := Lib.hid hs1
        clear hs1
        have Fs := Lib.hid (in_nw Hs.out (by decide +kernel) (by decide +kernel)).1
        go_wp2_with (first | (with_reducible refine wpList_nar rfl _ rfl _ rfl Fs.out ?_; intro r1 mr1 hr1) | (with_reducible refine wpList_fop rfl _ _ _ _ _ rfl rfl .f64 _ _ rfl rfl ?_; intro rz mz hrz; have Hz := Lib.hid (in_sub in_zero Hc.out hrz (lo := -(1951 / 10000)) (hi := 1 / 1000) (by decide +kernel) (by decide +kernel) (by decide +kernel) (by decide +kernel)); have Fz := Lib.hid (in_nw Hz.out (by decide +kernel) (by decide +kernel)).1) | (with_reducible refine wpList_nar rfl _ rfl _ rfl Fz.out ?_; intro r2 mr2 hr2))
        go_ret
        exact ⟨_, _, _, rfl, ph_mk hr1 hr2 Hs.out Hz.out (by decide +kernel) (by decide +kernel), by first | rfl | (simp; rfl)⟩
end Go.Proofs.YtdnoilcfgicnnaaGreat

/- The sine and the phase of turns, of the reference; on values. Conditions: those of the program's. -/
namespace Go.Proofs.YtdnoilcfgicnnaaGreat
open Go Go.RowKit
set_option linter.unusedSimpArgs false
set_option linter.unusedVariables false

theorem wrap_const : ∀ c : Nat, c < 9 → IntKind.i64.wrap (2 * (c : Int) * (2 * (c : Int) + 1)) = ((2 * c * (2 * c + 1) : Nat) : Int) := by decide
theorem cK_of : ∀ c : Nat, c < 9 → nrm .f64 (floatOfInt .f64 ((2 * c * (2 * c + 1) : Nat) : Int)) = cK (8 - c) := by decide +kernel
theorem toInt_small {y : Nat} (h : fN .f64 y = true) (hA : A (vN .f64 y) < 1) : floatToIntVal .f64 y .i64 = some 0 := by
  obtain ⟨s, m, e, hd, hm⟩ := small_digits h hA
  unfold floatToIntVal
  rw [hd]
  unfold Ieee.Datum.toInt Ieee.Datum.integral
  dsimp only
  rw [cut0 s _ _ hm]
  cases s <;> decide
theorem f00 : floatOfInt .f64 0 = 0 := by decide +kernel
theorem notHuge {y : Nat} (h : fN .f64 y = true) (hA : A (vN .f64 y) < 1) : fcmp .geq .f64 y 4841369599423283200 = false ∧ fcmp .leq .f64 y 14064741636278059008 = false := by
  have f1 : fN .f64 4841369599423283200 = true := by decide +kernel
  have v1 : (1 : Rat) ≤ vN .f64 4841369599423283200 := by decide +kernel
  have f2 : fN .f64 14064741636278059008 = true := by decide +kernel
  have v2 : vN .f64 14064741636278059008 ≤ -1 := by decide +kernel
  have a := le_A (vN .f64 y)
  refine ⟨?_, ?_⟩
  · rw [cmp_geq h f1, cmp_lss h f1]; simp; grind
  · rw [cmp_leq h f2, cmp_gtr h f2]; simp; grind
set_option maxRecDepth 100000 in
set_option maxHeartbeats 1600000 in
theorem sine_spec_low {a b lo hi : Rat} (R : Rng a b lo hi) (y : Nat) (w : World) (h : In y a b) (hq : vN .f64 (nrm .f64 y) ≤ 1 / 4) : Calls Tryz.prog 110 #[.float .f64 y] w (RetI lo hi w) := by
  have C1 := Lib.hid (c1_iv.mono (show (585 / 1000 : Rat) ≤ 1 by decide +kernel) (show (1 : Rat) ≤ 10001 / 10000 by decide +kernel))
  have a0 := R.a0
  have b1 := R.b1
  have y0 : 0 ≤ vN .f64 (nrm .f64 y) := Rat.le_trans a0 h.2.1
  have yA : A (vN .f64 (nrm .f64 y)) < 1 := by rw [A_of_nonneg y0]; have := h.2.2; grind
  have hn : nrm .f64 y = y := h.raw
  have f3 := self_sub h.1
  obtain ⟨f1, f2⟩ := notHuge h.1 yA
  have hti := toInt_small h.1 yA
  obtain ⟨s1, s2⟩ := sub0_val h.1 yA
  rw [hn] at f3 f1 f2 hti s1 s2
  have n0 := nrm64_0
  have h00 := f00
  have n1 : nrm .f64 4841369599423283200 = 4841369599423283200 := by decide +kernel
  have n2 : nrm .f64 14064741636278059008 = 14064741636278059008 := by decide +kernel
  have hcv : ∀ w, (convert 35 2 (.float .f64 y)).run Tryz.prog w = .ok (.int .i64 0) w := fun w => run_convert_float_int w _ _ .f64 .i64 y _ (by rw [Tryz.underlying35]; rfl) Tryz.underlying2 hti
  have g0 : fN .f64 0 = true := by decide +kernel
  have v0 : vN .f64 0 = 0 := by decide +kernel
  have f4 : fcmp .lss .f64 (fop .sub .f64 y 0) 0 = false := by rw [cmp_lss s1 g0, s2, v0]; rw [hn] at y0; simp; grind
  have hG : fcmp .geq .f64 (fop .sub .f64 y 0) (nrm .f64 4602678819172646912) = false := by
    have hv := chalf_iv.2.2
    have hv2 := chalf_iv.2.1
    rw [cmp_geq s1 chalf_iv.1, cmp_lss s1 chalf_iv.1, s2]
    have := h.2.2
    rw [hn] at this
    simp; grind
  have hF : fcmp .gtr .f64 (fop .sub .f64 y 0) (nrm .f64 4598175219545276416) = false := by
    have hv := cquart_iv.2.2
    have hv2 := cquart_iv.2.1
    rw [cmp_gtr s1 cquart_iv.1, s2]
    rw [hn] at hq
    simp; grind
  have Iff := Lib.hid (show Iv (fop .sub .f64 y 0) a b from ⟨s1, by rw [s2, ← hn]; exact h.2.1, by rw [s2, ← hn]; exact h.2.2⟩)
  have HF := Lib.hid Iff.out
  have HU := Lib.hid (zS_iv R HF.out).2
  clear y0 yA hti s1 s2 g0 v0 h hq
  go_enter Tryz.func110, Tryz.ntmps110
  go_wp2_with (with_reducible refine wpList_fop rfl _ _ _ _ _ rfl rfl .f64 _ _ rfl rfl ?_; intro r m hr)
  go_loopg [7, 8] 8 (fun g p k wr => k = .int .i64 (g : Int) ∧ g ≤ 8 ∧ ∃ pr m, p = .float .f64 pr ∧ Iv (nrm .f64 pr) (585 / 1000) (10001 / 10000) ∧ wr = w.drewN m)
  case atStart => exact ⟨rfl, by omega, _, _, rfl, C1.out, rfl⟩
  case round =>
    obtain ⟨rfl, hj, pr, m, rfl, hp, rfl⟩ := hrel
    have Hp := Lib.hid hp
    clear hp
    by_cases hlt : 0 < gk
    · obtain ⟨c, rfl⟩ : ∃ c, gk = c + 1 := ⟨gk - 1, by omega⟩
      have hw := wrap_const (c + 1) (by omega)
      have Hc := Lib.hid (cK_of (c + 1) (by omega))
      have Hi := Lib.hid (pS_iv HU.out Hp.out (cK_iv (8 - (c + 1)) (by omega)))
      have hw2 : IntKind.i64.wrap (2 * ((c : Int) + 1) * (2 * ((c : Int) + 1) + 1)) = ((2 * (c + 1) * (2 * (c + 1) + 1) : Nat) : Int) := hw
      clear hw
      generalize hD : ((2 * (c + 1) * (2 * (c + 1) + 1) : Nat) : Int) = D at *
      have HD := Lib.hid hD
      clear hD
      go_wp2_with (with_reducible refine wpList_fop rfl _ _ _ _ _ rfl rfl .f64 _ _ rfl rfl ?_; intro r m hr)
      go_roundg c
      case measure => omega
      case rel =>
        refine ⟨by first | rfl | go_num, by omega, _, _, rfl, ?_, by first | rfl | (simp only [World.drewN_drewN]; rfl)⟩
        have := Hi.out
        rw [← Hc.out] at this
        simp only [uS, zS] at this
        have hk := this
        clear this
        simp only [*]
        first | done | exact hk
    · obtain rfl : gk = 0 := by omega
      have Hi := Lib.hid (rS_iv R HF.out Hp.out)
      go_wp2_with (with_reducible refine wpList_fop rfl _ _ _ _ _ rfl rfl .f64 _ _ rfl rfl ?_; intro r m hr)
      go_ret
      refine ⟨_, _, rfl, ?_, by first | rfl | (simp only [World.drewN_drewN]; rfl)⟩
      have := Hi.out
      simp only [zS] at this
      unfold In
      have hk := this
      clear this
      simp only [*]
      first | done | exact hk
set_option maxRecDepth 100000 in
set_option maxHeartbeats 1600000 in
theorem sine_spec_far {a b lo hi : Rat} (R : Rng a b lo hi) (y : Nat) (w : World) (h : In y a b) (hq : 1 / 4 < vN .f64 (nrm .f64 y)) : Calls Tryz.prog 110 #[.float .f64 y] w (RetI lo hi w) := by
  have C1 := Lib.hid (c1_iv.mono (show (585 / 1000 : Rat) ≤ 1 by decide +kernel) (show (1 : Rat) ≤ 10001 / 10000 by decide +kernel))
  have a0 := R.a0
  have b1 := R.b1
  have y0 : 0 ≤ vN .f64 (nrm .f64 y) := Rat.le_trans a0 h.2.1
  have yA : A (vN .f64 (nrm .f64 y)) < 1 := by rw [A_of_nonneg y0]; have := h.2.2; grind
  have hn : nrm .f64 y = y := h.raw
  have f3 := self_sub h.1
  obtain ⟨f1, f2⟩ := notHuge h.1 yA
  have hti := toInt_small h.1 yA
  obtain ⟨s1, s2⟩ := sub0_val h.1 yA
  rw [hn] at f3 f1 f2 hti s1 s2
  have n0 := nrm64_0
  have h00 := f00
  have n1 : nrm .f64 4841369599423283200 = 4841369599423283200 := by decide +kernel
  have n2 : nrm .f64 14064741636278059008 = 14064741636278059008 := by decide +kernel
  have hcv : ∀ w, (convert 35 2 (.float .f64 y)).run Tryz.prog w = .ok (.int .i64 0) w := fun w => run_convert_float_int w _ _ .f64 .i64 y _ (by rw [Tryz.underlying35]; rfl) Tryz.underlying2 hti
  have g0 : fN .f64 0 = true := by decide +kernel
  have v0 : vN .f64 0 = 0 := by decide +kernel
  have f4 : fcmp .lss .f64 (fop .sub .f64 y 0) 0 = false := by rw [cmp_lss s1 g0, s2, v0]; rw [hn] at y0; simp; grind
  have hG : fcmp .geq .f64 (fop .sub .f64 y 0) (nrm .f64 4602678819172646912) = false := by
    have hv := chalf_iv.2.2
    have hv2 := chalf_iv.2.1
    rw [cmp_geq s1 chalf_iv.1, cmp_lss s1 chalf_iv.1, s2]
    have := h.2.2
    rw [hn] at this
    simp; grind
  have hF : fcmp .gtr .f64 (fop .sub .f64 y 0) (nrm .f64 4598175219545276416) = true := by
    have hv := cquart_iv.2.2
    have hv2 := cquart_iv.2.1
    rw [cmp_gtr s1 cquart_iv.1, s2]
    rw [hn] at hq
    simp; grind
  have Iff := Lib.hid (show Iv (fop .sub .f64 y 0) a b from ⟨s1, by rw [s2, ← hn]; exact h.2.1, by rw [s2, ← hn]; exact h.2.2⟩)
  have HF := Lib.hid (show Iv (fop .sub .f64 (nrm .f64 4602678819172646912) (fop .sub .f64 y 0)) a b from by
    have h2 : Iv (fop .sub .f64 y 0) (1 / 4) b := ⟨s1, by rw [s2, ← hn]; exact Rat.le_of_lt hq, by rw [s2, ← hn]; exact h.2.2⟩
    rcases R.fold with hh | ⟨h3, h4⟩
    · exact absurd hq (by have := h.2.2; grind)
    · have ev := e0v
      exact iv_sub chalf_iv h2 (by grind) (by grind) (by grind) (by grind))
  have HU := Lib.hid (zS_iv R HF.out).2
  clear y0 yA hti s1 s2 g0 v0 h hq
  go_enter Tryz.func110, Tryz.ntmps110
  go_wp2_with (with_reducible refine wpList_fop rfl _ _ _ _ _ rfl rfl .f64 _ _ rfl rfl ?_; intro r m hr)
  go_loopg [7, 8] 8 (fun g p k wr => k = .int .i64 (g : Int) ∧ g ≤ 8 ∧ ∃ pr m, p = .float .f64 pr ∧ Iv (nrm .f64 pr) (585 / 1000) (10001 / 10000) ∧ wr = w.drewN m)
  case atStart => exact ⟨rfl, by omega, _, _, rfl, C1.out, rfl⟩
  case round =>
    obtain ⟨rfl, hj, pr, m, rfl, hp, rfl⟩ := hrel
    have Hp := Lib.hid hp
    clear hp
    by_cases hlt : 0 < gk
    · obtain ⟨c, rfl⟩ : ∃ c, gk = c + 1 := ⟨gk - 1, by omega⟩
      have hw := wrap_const (c + 1) (by omega)
      have Hc := Lib.hid (cK_of (c + 1) (by omega))
      have Hi := Lib.hid (pS_iv HU.out Hp.out (cK_iv (8 - (c + 1)) (by omega)))
      have hw2 : IntKind.i64.wrap (2 * ((c : Int) + 1) * (2 * ((c : Int) + 1) + 1)) = ((2 * (c + 1) * (2 * (c + 1) + 1) : Nat) : Int) := hw
      clear hw
      generalize hD : ((2 * (c + 1) * (2 * (c + 1) + 1) : Nat) : Int) = D at *
      have HD := Lib.hid hD
      clear hD
      go_wp2_with (with_reducible refine wpList_fop rfl _ _ _ _ _ rfl rfl .f64 _ _ rfl rfl ?_; intro r m hr)
      go_roundg c
      case measure => omega
      case rel =>
        refine ⟨by first | rfl | go_num, by omega, _, _, rfl, ?_, by first | rfl | (simp only [World.drewN_drewN]; rfl)⟩
        have := Hi.out
        rw [← Hc.out] at this
        simp only [uS, zS] at this
        have hk := this
        clear this
        simp only [*]
        first | done | exact hk
    · obtain rfl : gk = 0 := by omega
      have Hi := Lib.hid (rS_iv R HF.out Hp.out)
      go_wp2_with (with_reducible refine wpList_fop rfl _ _ _ _ _ rfl rfl .f64 _ _ rfl rfl ?_; intro r m hr)
      go_ret
      refine ⟨_, _, rfl, ?_, by first | rfl | (simp only [World.drewN_drewN]; rfl)⟩
      have := Hi.out
      simp only [zS] at this
      unfold In
      have hk := this
      clear this
      simp only [*]
      first | done | exact hk
set_option maxRecDepth 100000 in
set_option maxHeartbeats 400000 in
theorem sine_spec {a b lo hi : Rat} (R : Rng a b lo hi) (y : Nat) (w : World) (h : In y a b) : Calls Tryz.prog 110 #[.float .f64 y] w (RetI lo hi w) := by
  rcases Rat.le_total (a := vN .f64 (nrm .f64 y)) (b := 1 / 4) with hq | hq
  · exact sine_spec_low R y w h hq
  · by_cases he : vN .f64 (nrm .f64 y) = 1 / 4
    · exact sine_spec_low R y w h (by rw [he]; exact Rat.le_refl)
    · exact sine_spec_far R y w h (by grind)
end Go.Proofs.YtdnoilcfgicnnaaGreat
