/- The phase of turns, of the reference; on values. Conditions: turns of at most 306 / 10000, either way. -/
import Derived.Test.YtdnoilcfgicnnaaGreatY20
namespace Go.Proofs.YtdnoilcfgicnnaaGreat
open Go Go.RowKit
set_option linter.unusedSimpArgs false
set_option linter.unusedVariables false

set_option maxRecDepth 100000 in
set_option maxHeartbeats 1600000 in
theorem phasor_spec_pos (y : Nat) (w : World) (h : In y (-(306 / 10000)) (306 / 10000)) (hs : 0 ≤ vN .f64 (nrm .f64 y)) : Calls Tryz.prog 85 #[.float .f64 y] w (RetPh w) := by
  have hn : nrm .f64 y = y := h.raw
  have yA : A (vN .f64 (nrm .f64 y)) < 1 := by
    have a := le_of_parts2 h.2.2 (show -vN .f64 (nrm .f64 y) ≤ 306 / 10000 by have := h.2.1; grind)
    grind
  have f3 := self_sub h.1
  obtain ⟨f1, f2⟩ := notHuge h.1 yA
  have hti := toInt_small h.1 yA
  obtain ⟨s1, s2⟩ := sub0_val h.1 yA
  rw [hn] at f3 f1 f2 hti s1 s2
  have n0 := nrm64_0
  have h00 := f00
  have n1 : nrm .f64 4841369599423283200 = 4841369599423283200 := by decide +kernel
  have n2 : nrm .f64 14064741636278059008 = 14064741636278059008 := by decide +kernel
  have hcv : ∀ w, (convert 35 2 (.float .f64 y)).run Tryz.prog w = .ok (.int .i64 0) w := fun w => run_convert_float_int w _ _ .f64 .i64 y _ (by rw [Tryz.underlying35]; rfl) Tryz.underlying2 hti
  have g0 : fN .f64 0 = true := by decide +kernel
  have v0 : vN .f64 0 = 0 := by decide +kernel
  have f4 : fcmp .lss .f64 (fop .sub .f64 y 0) 0 = false := by rw [cmp_lss s1 g0, s2, v0]; rw [hn] at hs; simp; grind
  have HJ := Lib.hid (show ∀ r, nrm .f64 r = fop .sub .f64 y 0 → PhJ r 0 from fun r hr => by
    exact phJ_start h (by rw [hr]; exact s1) (fun _ => by rw [hr, hn]; exact s2) (fun h0 => absurd h0 (by grind)))
  have HS1 := Lib.hid (fun r w1 hr => sine_spec rng_small r w1 hr)
  have HS2 := Lib.hid (fun r w1 hr => sine_spec rng_near r w1 hr)
  clear yA hti s1 s2 g0 v0 h hs
  go_enter Tryz.func85, Tryz.ntmps85
  go_wp2_with (with_reducible refine wpList_fop rfl _ _ _ _ _ rfl rfl .f64 _ _ rfl rfl ?_; intro r m hr)
  go_loopw [3, 4] (fun fv qv wr => ∃ (f q k : Nat), fv = .float .f64 f ∧ qv = .int .i64 q ∧ PhJ f q ∧ wr = w.drewN k) (fun _ qv _ => 4 - (intOf qv).toNat)
  case atStart => exact ⟨_, 0, _, rfl, rfl, HJ.out r (by simp only [*]), by first | rfl | (simp; rfl)⟩
  case round =>
    obtain ⟨f, q, k, rfl, rfl, hJ, rfl⟩ := hrel
    have HJ2 := Lib.hid hJ
    have hq4 := hJ.le
    clear hr
    by_cases hge : 1 / 4 ≤ vN .f64 (nrm .f64 f)
    · obtain ⟨hq3, hnext⟩ := hJ.next hge
      have hc : fcmp .geq .f64 (nrm .f64 f) (nrm .f64 4598175219545276416) = true := hJ.geq_t hge
      have Hn := Lib.hid hnext
      clear hJ hnext
      go_wp2_with (with_reducible refine wpList_fop rfl _ _ _ _ _ rfl rfl .f64 _ _ rfl rfl ?_; intro r m hr)
      go_roundw
      case rel => exact ⟨r, q + 1, _, rfl, by go_num, Hn.out r hr, by first | rfl | (simp; rfl)⟩
      case measure => simp [intOf]; omega
    · have hc : fcmp .geq .f64 (nrm .f64 f) (nrm .f64 4598175219545276416) = false := hJ.geq_f hge
      rcases hJ.exit hge with ⟨hq, I1, I2⟩ | ⟨hq, I1, I2⟩
      · have H1 := Lib.hid I1
        have H2 := Lib.hid I2
        have hq1 : ((q : Int) == 1) = false := by rcases hq with rfl | rfl <;> rfl
        have hq2 : ((q : Int) == 2) = false := by rcases hq with rfl | rfl <;> rfl
        have hq3 : ((q : Int) == 3) = false := by rcases hq with rfl | rfl <;> rfl
        clear hJ I1 I2
        go_wp2_with (with_reducible refine wpList_fop rfl _ _ _ _ _ rfl rfl .f64 _ _ rfl rfl ?_; intro r m hr)
        refine (HS2.out _ _ (H1.out _ hr)).mono ?_
        rintro e w' ⟨c, mc, rfl, hc1, rfl⟩
        have Hc := Lib.hid hc1
        clear hc1
        go_wp2_with fail
        refine (HS1.out _ _ H2.out).mono ?_
        rintro e w' ⟨s, ms, rfl, hs1, rfl⟩
        have Hs := Lib.hid hs1
        clear hs1
        have Fc := Lib.hid (in_nw Hc.out (by decide +kernel) (by decide +kernel)).1
        have Fs := Lib.hid (in_nw Hs.out (by decide +kernel) (by decide +kernel)).1
        go_wp2_with fail
        (go_at_call 88; ((with_reducible refine (narrow_spec c Fc _).mono ?_); rintro e w' ⟨r1, mr1, rfl, hr1, rfl⟩))
        go_wp2_with fail
        (go_at_call 88; ((with_reducible refine (narrow_spec s Fs _).mono ?_); rintro e w' ⟨r2, mr2, rfl, hr2, rfl⟩))
        have K := Lib.hid (ph_mk hr1 hr2 Hc.out Hs.out (by decide +kernel) (by decide +kernel))
        clear hr1 hr2 hr
        go_wp2_with fail
        go_ret
        exact ⟨_, _, _, rfl, K.out, by first | rfl | (simp; rfl)⟩
      · have H1 := Lib.hid I1
        have H2 := Lib.hid I2
        subst hq
        clear hJ I1 I2
        go_wp2_with (with_reducible refine wpList_fop rfl _ _ _ _ _ rfl rfl .f64 _ _ rfl rfl ?_; intro r m hr)
        refine (HS1.out _ _ (H1.out _ hr)).mono ?_
        rintro e w' ⟨c, mc, rfl, hc1, rfl⟩
        have Hc := Lib.hid hc1
        clear hc1 hr
        go_wp2_with fail
        refine (HS2.out _ _ H2.out).mono ?_
        rintro e w' ⟨s, ms, rfl, hs1, rfl⟩
        have Hs := Lib.hid hs1
        clear hs1
        have Fs := Lib.hid (in_nw Hs.out (by decide +kernel) (by decide +kernel)).1
        go_wp2_with fail
        (go_at_call 88; ((with_reducible refine (narrow_spec s Fs _).mono ?_); rintro e w' ⟨r1, mr1, rfl, hr1, rfl⟩))
        have Hr1 := Lib.hid hr1
        clear hr1
        go_wp2_with (with_reducible refine wpList_fop rfl _ _ _ _ _ rfl rfl .f64 _ _ rfl rfl ?_; intro rz mz hrz; have Hz := Lib.hid (in_sub in_zero Hc.out hrz (lo := -(1951 / 10000)) (hi := 1 / 1000) (by decide +kernel) (by decide +kernel) (by decide +kernel) (by decide +kernel)); have Fz := Lib.hid (in_nw Hz.out (by decide +kernel) (by decide +kernel)).1; clear hrz)
        (go_at_call 88; ((with_reducible refine (narrow_spec rz Fz _).mono ?_); rintro e w' ⟨r2, mr2, rfl, hr2, rfl⟩))
        have K := Lib.hid (ph_mk Hr1.out hr2 Hs.out Hz.out (by decide +kernel) (by decide +kernel))
        clear hr2
        go_wp2_with fail
        go_ret
        exact ⟨_, _, _, rfl, K.out, by first | rfl | (simp; rfl)⟩
set_option maxRecDepth 100000 in
set_option maxHeartbeats 1600000 in
theorem phasor_spec_neg (y : Nat) (w : World) (h : In y (-(306 / 10000)) (306 / 10000)) (hs : vN .f64 (nrm .f64 y) < 0) : Calls Tryz.prog 85 #[.float .f64 y] w (RetPh w) := by
  have hn : nrm .f64 y = y := h.raw
  have yA : A (vN .f64 (nrm .f64 y)) < 1 := by
    have a := le_of_parts2 h.2.2 (show -vN .f64 (nrm .f64 y) ≤ 306 / 10000 by have := h.2.1; grind)
    grind
  have f3 := self_sub h.1
  obtain ⟨f1, f2⟩ := notHuge h.1 yA
  have hti := toInt_small h.1 yA
  obtain ⟨s1, s2⟩ := sub0_val h.1 yA
  rw [hn] at f3 f1 f2 hti s1 s2
  have n0 := nrm64_0
  have h00 := f00
  have n1 : nrm .f64 4841369599423283200 = 4841369599423283200 := by decide +kernel
  have n2 : nrm .f64 14064741636278059008 = 14064741636278059008 := by decide +kernel
  have hcv : ∀ w, (convert 35 2 (.float .f64 y)).run Tryz.prog w = .ok (.int .i64 0) w := fun w => run_convert_float_int w _ _ .f64 .i64 y _ (by rw [Tryz.underlying35]; rfl) Tryz.underlying2 hti
  have g0 : fN .f64 0 = true := by decide +kernel
  have v0 : vN .f64 0 = 0 := by decide +kernel
  have f4 : fcmp .lss .f64 (fop .sub .f64 y 0) 0 = true := by rw [cmp_lss s1 g0, s2, v0]; rw [hn] at hs; simp; grind
  have HJ := Lib.hid (show ∀ r, nrm .f64 r = fop .add .f64 (fop .sub .f64 y 0) (nrm .f64 4607182418800017408) → PhJ r 0 from fun r hr => by
    have g1 : fN .f64 (nrm .f64 4607182418800017408) = true := by decide +kernel
    have v1 : vN .f64 (nrm .f64 4607182418800017408) = 1 := by decide +kernel
    have a2 : A (vN .f64 (fop .sub .f64 y 0) + vN .f64 (nrm .f64 4607182418800017408)) ≤ 64 := by
      rw [s2, v1]; rw [hn] at yA; have := A_add (vN .f64 y) 1; rw [show A (1 : Rat) = 1 by decide +kernel] at this; grind
    have R := fop_add_res (k := .f64) s1 g1 (l64 a2)
    have h5 := res_e0 R a2
    rw [s2, v1] at h5
    exact phJ_start h (by rw [hr]; exact R.1) (fun h0 => absurd h0 (by grind)) (fun _ => by rw [hr, hn]; exact h5))
  have HS1 := Lib.hid (fun r w1 hr => sine_spec rng_small r w1 hr)
  have HS2 := Lib.hid (fun r w1 hr => sine_spec rng_near r w1 hr)
  clear yA hti s1 s2 g0 v0 h hs
  go_enter Tryz.func85, Tryz.ntmps85
  go_wp2_with (with_reducible refine wpList_fop rfl _ _ _ _ _ rfl rfl .f64 _ _ rfl rfl ?_; intro r m hr)
  go_loopw [3, 4] (fun fv qv wr => ∃ (f q k : Nat), fv = .float .f64 f ∧ qv = .int .i64 q ∧ PhJ f q ∧ wr = w.drewN k) (fun _ qv _ => 4 - (intOf qv).toNat)
  case atStart => exact ⟨_, 0, _, rfl, rfl, HJ.out r (by simp only [*]), by first | rfl | (simp; rfl)⟩
  case round =>
    obtain ⟨f, q, k, rfl, rfl, hJ, rfl⟩ := hrel
    have HJ2 := Lib.hid hJ
    have hq4 := hJ.le
    clear hr
    by_cases hge : 1 / 4 ≤ vN .f64 (nrm .f64 f)
    · obtain ⟨hq3, hnext⟩ := hJ.next hge
      have hc : fcmp .geq .f64 (nrm .f64 f) (nrm .f64 4598175219545276416) = true := hJ.geq_t hge
      have Hn := Lib.hid hnext
      clear hJ hnext
      go_wp2_with (with_reducible refine wpList_fop rfl _ _ _ _ _ rfl rfl .f64 _ _ rfl rfl ?_; intro r m hr)
      go_roundw
      case rel => exact ⟨r, q + 1, _, rfl, by go_num, Hn.out r hr, by first | rfl | (simp; rfl)⟩
      case measure => simp [intOf]; omega
    · have hc : fcmp .geq .f64 (nrm .f64 f) (nrm .f64 4598175219545276416) = false := hJ.geq_f hge
      rcases hJ.exit hge with ⟨hq, I1, I2⟩ | ⟨hq, I1, I2⟩
      · have H1 := Lib.hid I1
        have H2 := Lib.hid I2
        have hq1 : ((q : Int) == 1) = false := by rcases hq with rfl | rfl <;> rfl
        have hq2 : ((q : Int) == 2) = false := by rcases hq with rfl | rfl <;> rfl
        have hq3 : ((q : Int) == 3) = false := by rcases hq with rfl | rfl <;> rfl
        clear hJ I1 I2
        go_wp2_with (with_reducible refine wpList_fop rfl _ _ _ _ _ rfl rfl .f64 _ _ rfl rfl ?_; intro r m hr)
        refine (HS2.out _ _ (H1.out _ hr)).mono ?_
        rintro e w' ⟨c, mc, rfl, hc1, rfl⟩
        have Hc := Lib.hid hc1
        clear hc1
        go_wp2_with fail
        refine (HS1.out _ _ H2.out).mono ?_
        rintro e w' ⟨s, ms, rfl, hs1, rfl⟩
        have Hs := Lib.hid hs1
        clear hs1
        have Fc := Lib.hid (in_nw Hc.out (by decide +kernel) (by decide +kernel)).1
        have Fs := Lib.hid (in_nw Hs.out (by decide +kernel) (by decide +kernel)).1
        go_wp2_with fail
        (go_at_call 88; ((with_reducible refine (narrow_spec c Fc _).mono ?_); rintro e w' ⟨r1, mr1, rfl, hr1, rfl⟩))
        go_wp2_with fail
        (go_at_call 88; ((with_reducible refine (narrow_spec s Fs _).mono ?_); rintro e w' ⟨r2, mr2, rfl, hr2, rfl⟩))
        have K := Lib.hid (ph_mk hr1 hr2 Hc.out Hs.out (by decide +kernel) (by decide +kernel))
        clear hr1 hr2 hr
        go_wp2_with fail
        go_ret
        exact ⟨_, _, _, rfl, K.out, by first | rfl | (simp; rfl)⟩
      · have H1 := Lib.hid I1
        have H2 := Lib.hid I2
        subst hq
        clear hJ I1 I2
        go_wp2_with (with_reducible refine wpList_fop rfl _ _ _ _ _ rfl rfl .f64 _ _ rfl rfl ?_; intro r m hr)
        refine (HS1.out _ _ (H1.out _ hr)).mono ?_
        rintro e w' ⟨c, mc, rfl, hc1, rfl⟩
        have Hc := Lib.hid hc1
        clear hc1 hr
        go_wp2_with fail
        refine (HS2.out _ _ H2.out).mono ?_
        rintro e w' ⟨s, ms, rfl, hs1, rfl⟩
        have Hs := Lib.hid hs1
        clear hs1
        have Fs := Lib.hid (in_nw Hs.out (by decide +kernel) (by decide +kernel)).1
        go_wp2_with fail
        (go_at_call 88; ((with_reducible refine (narrow_spec s Fs _).mono ?_); rintro e w' ⟨r1, mr1, rfl, hr1, rfl⟩))
        have Hr1 := Lib.hid hr1
        clear hr1
        go_wp2_with (with_reducible refine wpList_fop rfl _ _ _ _ _ rfl rfl .f64 _ _ rfl rfl ?_; intro rz mz hrz; have Hz := Lib.hid (in_sub in_zero Hc.out hrz (lo := -(1951 / 10000)) (hi := 1 / 1000) (by decide +kernel) (by decide +kernel) (by decide +kernel) (by decide +kernel)); have Fz := Lib.hid (in_nw Hz.out (by decide +kernel) (by decide +kernel)).1; clear hrz)
        (go_at_call 88; ((with_reducible refine (narrow_spec rz Fz _).mono ?_); rintro e w' ⟨r2, mr2, rfl, hr2, rfl⟩))
        have K := Lib.hid (ph_mk Hr1.out hr2 Hs.out Hz.out (by decide +kernel) (by decide +kernel))
        clear hr2
        go_wp2_with fail
        go_ret
        exact ⟨_, _, _, rfl, K.out, by first | rfl | (simp; rfl)⟩
theorem phasor_spec (y : Nat) (w : World) (h : In y (-(306 / 10000)) (306 / 10000)) : Calls Tryz.prog 85 #[.float .f64 y] w (RetPh w) := by
  by_cases hs : 0 ≤ vN .f64 (nrm .f64 y)
  · exact phasor_spec_pos y w h hs
  · exact phasor_spec_neg y w h (by grind)
end Go.Proofs.YtdnoilcfgicnnaaGreat

/- The angle of a number in turns, of the program and of the reference; on values. Conditions: 0, or a number whose real part is above 0 and whose imaginary part is at most 381 / 1000 of it. -/
namespace Go.Proofs.YtdnoilcfgicnnaaGreat
open Go Go.RowKit
set_option linter.unusedSimpArgs false
set_option linter.unusedVariables false

theorem c8_iv : Iv (nrm .f64 4620693217682128896) 8 8 := by unfold Iv; decide +kernel
theorem iv_sqrt {x : Nat} {a b lo hi : Rat} (hx : Iv x a b) (ha : 0 ≤ a) (hb : b ≤ 64) (hlo : p2 (-60) ≤ lo) (hlo2 : lo * lo ≤ a) (hhi : p2 (-60) ≤ hi) (hhi2 : b ≤ hi * hi) : Iv (sqF x) (lo * (1 - p2 (-40))) (hi * (1 + p2 (-40))) := by
  have h := in_sqrt (r := sqF x) hx.in_ (by rw [fN_nrm hx.1]; unfold sqF; rw [nrm_nrm]) ha hb hlo hlo2 hhi hhi2
  have e : nrm .f64 (sqF x) = sqF x := by unfold sqF; rw [nrm_nrm]
  unfold In at h
  rw [e] at h
  exact h
def tS (t : Nat) : Nat := fop .quo .f64 t (fop .add .f64 (nrm .f64 4607182418800017408) (sqF (fop .add .f64 (nrm .f64 4607182418800017408) (fop .mul .f64 t t))))
theorem tS_iv {t : Nat} {T T' : Rat} (h : Iv t 0 T) (hT : T ≤ 3811 / 10000) (hT' : T ≤ (T' - e0) * (19998 / 10000)) (h0 : e0 ≤ T') (h1 : T' ≤ 1) : Iv (tS t) 0 T' := by
  have h' := h.mono (Rat.le_refl) hT
  have a1 : Iv (fop .mul .f64 t t) 0 (146 / 1000) := iv_mul h' h' (by decide) (by decide) (by decide +kernel) (.inr rfl) (by decide +kernel)
  have a2 : Iv (fop .add .f64 (nrm .f64 4607182418800017408) (fop .mul .f64 t t)) (9999 / 10000) (1147 / 1000) := iv_add c1_iv a1 (by decide +kernel) (by decide +kernel) (by decide +kernel) (by decide +kernel)
  have a3 := (iv_sqrt (lo := 9999 / 10000) (hi := 108 / 100) a2 (by decide +kernel) (by decide +kernel) (by decide +kernel) (by decide +kernel) (by decide +kernel) (by decide +kernel)).mono (show (9998 / 10000 + 1 / 100000 : Rat) ≤ _ by decide +kernel) (show _ ≤ (109 / 100 : Rat) by decide +kernel)
  have a4 : Iv (fop .add .f64 (nrm .f64 4607182418800017408) (sqF (fop .add .f64 (nrm .f64 4607182418800017408) (fop .mul .f64 t t)))) (19998 / 10000) (21 / 10) := iv_add c1_iv a3 (by decide +kernel) (by decide +kernel) (by decide +kernel) (by decide +kernel)
  exact iv_quo h a4 (by decide) (by decide +kernel) (.inr rfl) (by decide) hT' h0 (Rat.le_trans h1 (by decide))
/-- The bounds of the angle's tangent behind halvings. -/
def tB : Nat → Rat | 0 => 3811 / 10000 | 1 => 1906 / 10000 | 2 => 954 / 10000 | _ => 4772 / 100000
theorem tB_ok : ∀ j, j < 3 → tB j ≤ 3811 / 10000 ∧ tB j ≤ (tB (j + 1) - e0) * (19998 / 10000) ∧ e0 ≤ tB (j + 1) ∧ tB (j + 1) ≤ 1 := by decide +kernel
theorem tB_step {t j : Nat} (hj : j < 3) (h : Iv t 0 (tB j)) : Iv (tS t) 0 (tB (j + 1)) := by
  obtain ⟨a, b, c, d⟩ := tB_ok j hj
  exact tS_iv h a b c d
theorem uA_iv {t : Nat} (h : Iv t 0 (tB 3)) : Iv (fop .mul .f64 t t) 0 (229 / 100000) := iv_mul h h (by decide) (by decide) (by decide +kernel) (.inr rfl) (by decide +kernel)
theorem pA_iv {u p k : Nat} (hu : Iv u 0 (229 / 100000)) (hp : Iv p 0 (1001 / 1000)) (hk : Iv k 1 15) : Iv (fop .sub .f64 (fop .quo .f64 (nrm .f64 4607182418800017408) k) (fop .mul .f64 u p)) 0 (1001 / 1000) := by
  have h1 : Iv (fop .mul .f64 u p) 0 (23 / 10000) := iv_mul hu hp (by decide) (by decide) (by decide +kernel) (.inr rfl) (by decide +kernel)
  have h2 : Iv (fop .quo .f64 (nrm .f64 4607182418800017408) k) (66 / 1000) (10001 / 10000) := iv_quo c1_iv hk (by decide) (by decide) (by decide +kernel) (by decide +kernel) (by decide +kernel) (by decide +kernel) (by decide +kernel)
  exact iv_sub0 h2 h1 (by decide +kernel) (by decide +kernel) (by decide +kernel)
theorem angS_iv {t p : Nat} (ht : Iv t 0 (tB 3)) (hp : Iv p 0 (1001 / 1000)) : Iv (fop .quo .f64 (fop .mul .f64 (nrm .f64 4620693217682128896) (fop .mul .f64 t p)) (nrm .f64 4618760256179416344)) 0 (6083 / 100000) := by
  have h1 : Iv (fop .mul .f64 t p) 0 (47768 / 1000000) := iv_mul ht hp (by decide) (by decide) (by decide +kernel) (.inr rfl) (by decide +kernel)
  have h2 : Iv (fop .mul .f64 (nrm .f64 4620693217682128896) (fop .mul .f64 t p)) 0 (382145 / 1000000) := iv_mul c8_iv h1 (by decide) (by decide) (by decide +kernel) (.inr rfl) (by decide +kernel)
  exact iv_quo h2 c2pi_iv (by decide) (by decide +kernel) (.inr rfl) (by decide) (by decide +kernel) (by decide +kernel) (by decide +kernel)
theorem t0_iv {a b : Nat} (ha : fN .f64 a = true) (hb : fN .f64 b = true) (a0 : 0 ≤ vN .f64 a) (b0 : 0 < vN .f64 b) (h : vN .f64 a ≤ 381 / 1000 * vN .f64 b) : Iv (fop .quo .f64 a b) 0 (tB 0) := by
  have yn : vN .f64 b ≠ 0 := by intro h; rw [h] at b0; exact absurd b0 (by decide)
  obtain ⟨q, hq⟩ : ∃ q : Rat, q * vN .f64 b = vN .f64 a := ⟨vN .f64 a * (vN .f64 b)⁻¹, by rw [Rat.mul_assoc, Rat.inv_mul_cancel _ yn, Rat.mul_one]⟩
  have q1 : q ≤ 381 / 1000 := lcancel_le b0 (by rw [hq]; exact h)
  have q0 : 0 ≤ q := lcancel_le b0 (by rw [hq]; grind)
  have hA : A q ≤ 64 := by rw [A_of_nonneg q0]; grind
  obtain ⟨f1, f2⟩ := fop_quo_ok ha hb yn hq (lt_of_p2 (a := 6) (Rat.le_trans hA (by decide +kernel)) (by decide))
  have f3 : A (vN .f64 (fop .quo .f64 a b) - q) ≤ e0 := by
    have h2 := Rat.mul_le_mul_of_nonneg_left hA (Rat.le_of_lt (p2_pos (-52)))
    have h3 : p2 (-52) * 64 + p2 (-1075) ≤ e0 := by decide +kernel
    exact Rat.le_trans f2 (Rat.le_trans (by generalize p2 (-52) = u at *; generalize p2 (-1075) = v at *; clear h3; grind) h3)
  have e := le_A (vN .f64 (fop .quo .f64 a b) - q)
  have ev : e0 ≤ 1 / 10000 := by decide +kernel
  refine ⟨f1, nn_quo ha hb a0 b0 hq hA, ?_⟩
  show _ ≤ (3811 / 10000 : Rat)
  generalize e0 = t at *
  grind
def kA (j : Nat) : Nat := nrm .f64 (floatOfInt .f64 (15 - 2 * (j : Int)))
theorem kA_test : ∀ j, j < 8 → fcmp .geq .f64 (kA j) (nrm .f64 4607182418800017408) = true := by decide +kernel
theorem kA_last : fcmp .geq .f64 (kA 8) (nrm .f64 4607182418800017408) = false := by decide +kernel
theorem kA_next : ∀ j, j < 8 → fop .sub .f64 (kA j) (nrm .f64 4611686018427387904) = kA (j + 1) := by decide +kernel
theorem kA_zero : nrm .f64 4624633867356078080 = kA 0 := by decide +kernel
theorem kA_iv : ∀ j, j < 8 → fN .f64 (kA j) = true ∧ 1 ≤ vN .f64 (kA j) ∧ vN .f64 (kA j) ≤ 15 := by decide +kernel
/-- The opposite. -/
theorem neg_val {x : Nat} (h : fN .f64 x = true) : fN .f64 (Op.negFloat .f64 x) = true ∧ vN .f64 (Op.negFloat .f64 x) = -vN .f64 x := by
  have h2 : Op.negFloat .f64 x = x ^^^ 2 ^ 63 := rfl
  have e1 : Ieee.double.signWeight = 2 ^ 63 := by rw [double_facts.1]
  have hm : (x ^^^ 2 ^ 63) % 2 ^ 63 = x % 2 ^ 63 := by rw [Nat.xor_mod_two_pow, Nat.mod_self, Nat.xor_zero]
  have hs : ((x ^^^ 2 ^ 63) / 2 ^ 63 % 2 == 1) = !(x / 2 ^ 63 % 2 == 1) := by
    have t1 : ∀ y : Nat, (y / 2 ^ 63 % 2 == 1) = y.testBit 63 := fun y => by
      rw [Nat.testBit_eq_decide_div_mod_eq]
      by_cases hy : y / 2 ^ 63 % 2 = 1 <;> simp [hy]
    rw [t1, t1, Nat.testBit_xor, Nat.testBit_two_pow_self]
    cases x.testBit 63 <;> rfl
  have key : Ieee.double.read (x ^^^ 2 ^ 63) = (Ieee.double.read x).opposite := by
    unfold Ieee.Format.read
    simp only [e1, hm, hs]
    split
    · rfl
    · split
      · rfl
      · split <;> rfl
  have hx : isNum (Ieee.double.read x) = true := h
  obtain ⟨a1, a2⟩ := opposite_val hx
  refine ⟨by unfold fN; show isNum (Ieee.double.read _) = true; rw [h2, key]; exact a1, ?_⟩
  unfold vN
  show valD (Ieee.double.read _) = -valD (Ieee.double.read x)
  rw [h2, key]; exact a2
theorem in_neg {x : Nat} {a b : Rat} (h : In x a b) : In (Op.negFloat .f64 x) (-b) (-a) := by
  have hx : nrm .f64 x = x := h.raw
  have h' := h
  unfold In at h'
  rw [hx] at h'
  obtain ⟨f, v⟩ := neg_val h'.1
  unfold In
  rw [fN_nrm f]
  exact ⟨f, by rw [v]; grind, by rw [v]; grind⟩
/-- A small angle. -/
def AngOk (r : Nat) : Prop := fN .f32 (nrm .f32 r) = true ∧ A (vN .f32 (nrm .f32 r)) ≤ 609 / 10000
def RetAng (w : World) (e : Ending) (w' : World) : Prop := ∃ r, e = .returned (.float .f32 r) ∧ AngOk r ∧ Below w.heap.size w w'
theorem ang_mk {r x : Nat} {a b : Rat} (h : nrm .f32 r = nw (nrm .f64 x)) (hx : In x a b) (ha : -(6083 / 100000) ≤ a) (hb : b ≤ 6083 / 100000) : AngOk r := by
  obtain ⟨_, f, l, u⟩ := in_nw hx (by grind) (by grind)
  unfold AngOk
  rw [h]
  exact ⟨f, le_of_parts2 (by grind) (by grind)⟩
theorem ang_zero : AngOk 0 := by unfold AngOk; decide +kernel
end Go.Proofs.YtdnoilcfgicnnaaGreat

/- The angle of a number in turns, of the program; on values. Conditions: 0, or a number whose real part is above 0 and whose imaginary part is at most 381 / 1000 of it. -/
namespace Go.Proofs.YtdnoilcfgicnnaaGreat
open Go Go.RowKit
set_option linter.unusedSimpArgs false
set_option linter.unusedVariables false

/-- A number near the positive reals. -/
structure AngIn (y x : Nat) : Prop where
  fy : fN .f32 (nrm .f32 y) = true
  fx : fN .f32 (nrm .f32 x) = true
  by_ : A (vN .f32 (nrm .f32 y)) < p2 1023
  bx : A (vN .f32 (nrm .f32 x)) < p2 1023
  pos : 0 < vN .f32 (nrm .f32 x)
  le : A (vN .f32 (nrm .f32 y)) ≤ 381 / 1000 * vN .f32 (nrm .f32 x)
theorem wid_abs {y r : Nat} (hf : fN .f32 (nrm .f32 y) = true) (hb : A (vN .f32 (nrm .f32 y)) < p2 1023) (hr : nrm .f64 r = wd (nrm .f32 y)) : r < 18446744073709551616 ∧ fN .f64 (nrm .f64 r) = true ∧ vN .f64 (nrm .f64 r) = vN .f32 (nrm .f32 y) ∧ fN .f64 (absW r) = true ∧ vN .f64 (absW r) = A (vN .f32 (nrm .f32 y)) := by
  obtain ⟨w1, w2⟩ := wd_ok hf hb
  have e : r = wd (nrm .f32 y) := raw_of hr w1
  have h2 : fN .f64 r = true := by rw [e]; exact w1
  obtain ⟨a1, a2⟩ := absW_val h2
  have v2 : vN .f64 r = vN .f32 (nrm .f32 y) := by rw [e]; exact w2
  refine ⟨by rw [e]; exact wd_lt hf hb, by rw [hr]; exact w1, by rw [hr]; exact w2, a1, by rw [a2, v2]⟩

set_option maxRecDepth 100000 in
set_option maxHeartbeats 3200000 in
theorem angle_impl (y x : Nat) (w : World) (h : AngIn y x) : Calls Tryz.prog 104 #[.float .f32 y, .float .f32 x] w (RetAng w) := by
  have g0 : fN .f32 0 = true := by decide +kernel
  have v0 : vN .f32 0 = 0 := vN0
  have n32 := nrm0
  have cx0 : fcmp .eql .f32 (nrm .f32 x) 0 = false := by
    rw [cmp_eql h.fx g0, v0]; have := h.pos; simp; grind
  have cx1 : fcmp .lss .f32 (nrm .f32 x) 0 = false := by
    rw [cmp_lss h.fx g0, v0]; have := h.pos; simp; grind
  have Hfin := Lib.hid (show allFin [x, y] = true by simp [allFin, finF_iff, h.fx, h.fy])
  have HY := Lib.hid (fun r hr => wid_abs (r := r) h.fy h.by_ hr)
  have HX := Lib.hid (fun r hr => wid_abs (r := r) h.fx h.bx hr)
  have HI := Lib.hid h
  have n64 := nrm64_0
  clear h g0 v0
  go_enter Tryz.func104, Tryz.ntmps104
  go_wp2_with (first | (go_at_call 97; refine (areFinite_impl _ [x, y] _ (rd_two _ x y) (by simp)).mono ?_; rintro e w' ⟨m1, rfl, rfl⟩; rw [Hfin.out]) | (with_reducible refine wpList_wid rfl _ rfl _ rfl ?_; intro ry mry hry))
  refine (abs_impl ry _ (HY.out ry hry).1).mono ?_
  rintro e w' ⟨rfl, rfl⟩
  go_wp2_with (with_reducible refine wpList_wid rfl _ rfl _ rfl ?_; intro rx mrx hrx)
  refine (abs_impl rx _ (HX.out rx hrx).1).mono ?_
  rintro e w' ⟨rfl, rfl⟩
  obtain ⟨_, _, _, a1, a2⟩ := HY.out ry hry
  obtain ⟨_, _, _, b1, b2⟩ := HX.out rx hrx
  have pos := HI.out.pos
  have le := HI.out.le
  rw [A_of_nonneg (Rat.le_of_lt pos)] at b2
  have na : nrm .f64 (absW ry) = absW ry := fN_nrm a1
  have nb : nrm .f64 (absW rx) = absW rx := fN_nrm b1
  have hgt : fcmp .gtr .f64 (absW ry) (absW rx) = false := by
    rw [cmp_gtr a1 b1, a2, b2]; simp; grind
  have T0 := Lib.hid (t0_iv a1 b1 (by rw [a2]; exact A_nonneg _) (by rw [b2]; exact pos) (by rw [a2, b2]; exact le))
  generalize absW ry = aa at *
  generalize absW rx = bb at *
  clear hry hrx a1 a2 b1 b2 pos le
  go_wp2_with (with_reducible refine wpList_fop rfl _ _ _ _ _ rfl rfl .f64 _ _ rfl rfl ?_; intro r m hr)
  have T1 := Lib.hid (show Iv (nrm .f64 r) 0 (tB 0) from by rw [hr, na, nb]; exact T0.out)
  clear hr T0
  go_loopw [7, 42] (fun tv iv wr => ∃ (t j k : Nat), tv = .float .f64 t ∧ iv = .int .i64 j ∧ j ≤ 3 ∧ Iv (nrm .f64 t) 0 (tB j) ∧ wr = (w.alloc (.cells #[.float .f32 x, .float .f32 y] 31)).drewN k) (fun _ iv _ => 3 - (intOf iv).toNat)
  case atStart => exact ⟨r, 0, _, rfl, rfl, by omega, T1.out, by first | rfl | (simp; rfl)⟩
  case round =>
    obtain ⟨t, j, k, rfl, rfl, hj, ht, rfl⟩ := hrel
    have Ht := Lib.hid ht
    clear ht
    by_cases hlt : j < 3
    · have j1 : (j : Int) < 3 := by omega
      have Hn := Lib.hid (tB_step hlt Ht.out)
      go_wp2_with (first | (with_reducible refine wpList_fop rfl _ _ _ _ _ rfl rfl .f64 _ _ rfl rfl ?_; intro r m hr) | (go_at_call 79; refine (sqrt_lib _ _).mono ?_; rintro e w' ⟨sv, ms, rfl, hsv, rfl⟩))
      go_roundw
      case rel => exact ⟨r, j + 1, _, rfl, by go_num, by omega, by (have := Hn.out; unfold tS at this; have hk := this; clear this; simp only [*]; first | done | exact hk), by first | rfl | (simp; rfl)⟩
      case measure => simp [intOf]; omega
    · obtain rfl : j = 3 := by omega
      have HU := Lib.hid (uA_iv Ht.out)
      go_wp2_with (with_reducible refine wpList_fop rfl _ _ _ _ _ rfl rfl .f64 _ _ rfl rfl ?_; intro r m hr)
      have HU2 := Lib.hid (show Iv (nrm .f64 r) 0 (229 / 100000) from by rw [hr]; exact HU.out)
      clear hr HU
      have P0 := Lib.hid (show Iv (nrm .f64 0) 0 (1001 / 1000) from by unfold Iv; decide +kernel)
      go_loopg [9, 10] 8 (fun g pv kv wr => ∃ kr, kv = .float .f64 kr ∧ nrm .f64 kr = kA (8 - g) ∧ g ≤ 8 ∧ ∃ p m, pv = .float .f64 p ∧ Iv (nrm .f64 p) 0 (1001 / 1000) ∧ wr = (w.alloc (.cells #[.float .f32 x, .float .f32 y] 31)).drewN m)
      case atStart => exact ⟨_, rfl, kA_zero, by omega, _, _, rfl, P0.out, by first | rfl | (simp; rfl)⟩
      case round =>
        obtain ⟨kr, rfl, hk, hj, p, m, rfl, hp, rfl⟩ := hrel
        have Hp := Lib.hid hp
        clear hp
        by_cases hlt : 0 < gk
        · obtain ⟨j, rfl⟩ : ∃ j, gk = 8 - j := ⟨8 - gk, by omega⟩
          have hj8 : j < 8 := by omega
          rw [show 8 - (8 - j) = j by omega] at hk
          have ht := kA_test j hj8
          have Hn := Lib.hid (kA_next j hj8)
          have Hi := Lib.hid (pA_iv HU2.out Hp.out (kA_iv j hj8))
          go_wp2_with (with_reducible refine wpList_fop rfl _ _ _ _ _ rfl rfl .f64 _ _ rfl rfl ?_; intro r m hr)
          go_roundg (8 - (j + 1))
          case measure => omega
          case rel =>
            refine ⟨_, rfl, ?_, by omega, _, _, rfl, ?_, by first | rfl | (simp only [World.drewN_drewN]; rfl)⟩
            · rw [show 8 - (8 - (j + 1)) = j + 1 by omega, ← Hn.out]; simp only [*]
            · have hkk := Hi.out
              simp only [*]
              first | done | exact hkk
        · obtain rfl : gk = 0 := by omega
          have ht := kA_last
          have hk2 : nrm .f64 kr = kA 8 := hk
          have Hi := Lib.hid (angS_iv Ht.out Hp.out)
          have HB := Lib.hid (show ∀ m, Below w.heap.size w ((w.alloc (.cells #[.float .f32 x, .float .f32 y] 31)).drewN m) from fun m => below_drewN ((Below.refl _ _).alloc (Nat.le_refl _) _) m)
          clear hk
          have HQ := Lib.hid (fun (q1 q2 q3 : Nat) (e1 : nrm .f64 q1 = fop .mul .f64 (nrm .f64 t) (nrm .f64 p)) (e2 : nrm .f64 q2 = fop .mul .f64 (nrm .f64 4620693217682128896) (nrm .f64 q1)) (e3 : nrm .f64 q3 = fop .quo .f64 (nrm .f64 q2) (nrm .f64 4618760256179416344)) => show In q3 0 (6083 / 100000) from by
            unfold In; rw [e3, e2, e1]; exact Hi.out)
          have FIT := Lib.hid (fun (q : Nat) (h : In q 0 (6083 / 100000)) => Lib.hid (in_nw h (by decide) (by decide +kernel)).1)
          have FITN := Lib.hid (fun (q : Nat) (h : In q 0 (6083 / 100000)) => Lib.hid (in_nw (in_neg h) (by decide +kernel) (by decide +kernel)).1)
          cases hneg : fcmp .lss .f32 (nrm .f32 y) 0
          · go_wp2_with (first | (with_reducible refine wpList_fop rfl _ _ _ _ _ rfl rfl .f64 _ _ rfl rfl ?_; intro r m hr; first | (have hq3 := HQ.out _ _ _ hq1 hq2 hr; have Fr := FIT.out r hq3; have Fn := FITN.out r hq3) | (have _c := hq1; have hq2 := hr) | (have hq1 := hr)) | (with_reducible refine wpList_nar rfl _ rfl _ rfl Fr.out ?_; intro r2 mr2 hr2))
            go_ret
            exact ⟨_, rfl, ang_mk hr2 hq3 (by decide +kernel) (by decide +kernel), by first | exact HB.out _ | (simp only [World.drewN_drewN]; exact HB.out _)⟩
          · go_wp2_with (first | (with_reducible refine wpList_fop rfl _ _ _ _ _ rfl rfl .f64 _ _ rfl rfl ?_; intro r m hr; first | (have hq3 := HQ.out _ _ _ hq1 hq2 hr; have Fr := FIT.out r hq3; have Fn := FITN.out r hq3) | (have _c := hq1; have hq2 := hr) | (have hq1 := hr)) | (with_reducible refine wpList_nar rfl _ rfl _ rfl Fn.out ?_; intro r2 mr2 hr2))
            go_ret
            exact ⟨_, rfl, ang_mk hr2 (in_neg hq3) (by decide +kernel) (by decide +kernel), by first | exact HB.out _ | (simp only [World.drewN_drewN]; exact HB.out _)⟩

set_option maxRecDepth 100000 in
set_option maxHeartbeats 800000 in
theorem angle_impl0 (y x : Nat) (w : World) (fy : fN .f32 (nrm .f32 y) = true) (fx : fN .f32 (nrm .f32 x) = true) (hy : vN .f32 (nrm .f32 y) = 0) (hx : vN .f32 (nrm .f32 x) = 0) : Calls Tryz.prog 104 #[.float .f32 y, .float .f32 x] w (RetAng w) := by
  have g0 : fN .f32 0 = true := by decide +kernel
  have n32 := nrm0
  have cx0 : fcmp .eql .f32 (nrm .f32 x) 0 = true := by rw [cmp_eql fx g0, vN0, hx]; simp
  have cy0 : fcmp .eql .f32 (nrm .f32 y) 0 = true := by rw [cmp_eql fy g0, vN0, hy]; simp
  have Hfin := Lib.hid (show allFin [x, y] = true by simp [allFin, finF_iff, fx, fy])
  clear fy fx hy hx g0
  go_enter Tryz.func104, Tryz.ntmps104
  go_wp2_with (first | (go_at_call 97; refine (areFinite_impl _ [x, y] _ (rd_two _ x y) (by simp)).mono ?_; rintro e w' ⟨m1, rfl, rfl⟩; rw [Hfin.out]))
  go_ret
  exact ⟨_, rfl, ang_zero, below_drewN ((Below.refl _ _).alloc (Nat.le_refl _) _) _⟩
/-- What the angle needs of a number. -/
def AngC (z : C2) : Prop := AngIn z.2 z.1 ∨ (fC (nc z) ∧ cv (nc z) = zero2)
set_option maxRecDepth 100000 in
set_option maxHeartbeats 400000 in
theorem angleOf_impl (z : C2) (w : World) (h : AngC z) : Calls Tryz.prog 77 #[.complex .f32 z.1 z.2] w (RetAng w) := by
  have H := Lib.hid (show ∀ w1, Calls Tryz.prog 104 #[.float .f32 z.2, .float .f32 z.1] w1 (RetAng w1) from fun w1 => by
    rcases h with h | ⟨h1, h2⟩
    · exact angle_impl _ _ w1 h
    · exact angle_impl0 _ _ w1 h1.2 h1.1 (congrArg Q2.im h2) (congrArg Q2.re h2))
  clear h
  go_enter Tryz.func77, Tryz.ntmps77
  go_wp2_with fail
  refine (H.out _).mono ?_
  rintro e w' ⟨r, rfl, hr, hb⟩
  have Hr := Lib.hid hr
  have Hb := Lib.hid hb
  clear hr hb
  go_wp2_with fail
  go_ret
  exact ⟨_, rfl, Hr.out, Hb.out⟩
end Go.Proofs.YtdnoilcfgicnnaaGreat

/- The angle of a number in turns, of the reference; on values. Conditions: those of the program's. -/
namespace Go.Proofs.YtdnoilcfgicnnaaGreat
open Go Go.RowKit
set_option linter.unusedSimpArgs false
set_option linter.unusedVariables false

def RetJ (a b : Rat) (w : World) (e : Ending) (w' : World) : Prop := ∃ r m, e = .returned (.float .f64 r) ∧ In r a b ∧ w' = w.drewN m
theorem abs_facts {r : Nat} {v : Rat} (h1 : r < 18446744073709551616) (h2 : fN .f64 (nrm .f64 r) = true) (h3 : vN .f64 (nrm .f64 r) = v) : fN .f64 (absW r) = true ∧ vN .f64 (absW r) = A v := by
  have e : nrm .f64 r = r := (raw_of rfl h2).symm
  rw [e] at h2 h3
  obtain ⟨a1, a2⟩ := absW_val h2
  exact ⟨a1, by rw [a2, h3]⟩
set_option maxRecDepth 100000 in
set_option maxHeartbeats 3200000 in
theorem angleW_spec (y x : Nat) (w : World) (ly : y < 18446744073709551616) (lx : x < 18446744073709551616) (fy : fN .f64 (nrm .f64 y) = true) (fx : fN .f64 (nrm .f64 x) = true) (pos : 0 < vN .f64 (nrm .f64 x)) (le : A (vN .f64 (nrm .f64 y)) ≤ 381 / 1000 * vN .f64 (nrm .f64 x)) :
    Calls Tryz.prog 108 #[.float .f64 y, .float .f64 x] w (RetJ (-(6083 / 100000)) (6083 / 100000) w) := by
  have g0 : fN .f64 0 = true := by decide +kernel
  have v0 : vN .f64 0 = 0 := by decide +kernel
  have ey : nrm .f64 y = y := (raw_of rfl fy).symm
  have ex : nrm .f64 x = x := (raw_of rfl fx).symm
  have sy := self_sub fy
  have sx := self_sub fx
  have cx0 : fcmp .eql .f64 (nrm .f64 x) 0 = false := by rw [cmp_eql fx g0, v0]; simp; grind
  have cx1 : fcmp .lss .f64 (nrm .f64 x) 0 = false := by rw [cmp_lss fx g0, v0]; simp; grind
  obtain ⟨a1, a2⟩ := abs_facts ly fy rfl
  obtain ⟨b1, b2⟩ := abs_facts lx fx rfl
  rw [A_of_nonneg (Rat.le_of_lt pos)] at b2
  have na : nrm .f64 (absW y) = absW y := fN_nrm a1
  have nb : nrm .f64 (absW x) = absW x := fN_nrm b1
  have hgt : fcmp .gtr .f64 (absW y) (absW x) = false := by
    rw [cmp_gtr a1 b1, a2, b2]; simp; grind
  have T0 := Lib.hid (t0_iv a1 b1 (by rw [a2]; exact A_nonneg _) (by rw [b2]; exact pos) (by rw [a2, b2]; exact le))
  rw [ey] at sy
  rw [ex] at sx cx0 cx1
  have n64 := nrm64_0
  have HAy := Lib.hid (fun w1 => abs_impl y w1 ly)
  have HAx := Lib.hid (fun w1 => abs_impl x w1 lx)
  generalize absW y = aa at *
  generalize absW x = bb at *
  clear g0 v0 a1 a2 b1 b2 pos le fy fx ly lx
  go_enter Tryz.func108, Tryz.ntmps108
  go_wp2_with (first | (with_reducible refine wpList_fop rfl _ _ _ _ _ rfl rfl .f64 _ _ rfl rfl ?_; intro r m hr) | (with_reducible refine wpList_fopg _ _ _ _ _ rfl rfl .f64 _ _ rfl rfl (by with_unfolding_all rfl) ?_; intro r m hr))
  refine (HAy.out _).mono ?_
  rintro e w' ⟨rfl, rfl⟩
  go_wp2_with fail
  refine (HAx.out _).mono ?_
  rintro e w' ⟨rfl, rfl⟩
  clear hr
  go_wp2_with (first | (with_reducible refine wpList_fop rfl _ _ _ _ _ rfl rfl .f64 _ _ rfl rfl ?_; intro r m hr) | (with_reducible refine wpList_fopg _ _ _ _ _ rfl rfl .f64 _ _ rfl rfl (by with_unfolding_all rfl) ?_; intro r m hr))
  have T1 := Lib.hid (show Iv (nrm .f64 r) 0 (tB 0) from by rw [hr, na, nb]; exact T0.out)
  clear hr T0
  go_loopw [8, 9] (fun tv iv wr => ∃ (t j k : Nat), tv = .float .f64 t ∧ iv = .int .i64 j ∧ j ≤ 3 ∧ Iv (nrm .f64 t) 0 (tB j) ∧ wr = w.drewN k) (fun _ iv _ => 3 - (intOf iv).toNat)
  case atStart => exact ⟨r, 0, _, rfl, rfl, by omega, T1.out, by first | rfl | (simp; rfl)⟩
  case round =>
    obtain ⟨t, j, k, rfl, rfl, hj, ht, rfl⟩ := hrel
    have Ht := Lib.hid ht
    clear ht
    by_cases hlt : j < 3
    · have j1 : (j : Int) < 3 := by omega
      have Hn := Lib.hid (tB_step hlt Ht.out)
      go_wp2_with (first | (first | (with_reducible refine wpList_fop rfl _ _ _ _ _ rfl rfl .f64 _ _ rfl rfl ?_; intro r m hr) | (with_reducible refine wpList_fopg _ _ _ _ _ rfl rfl .f64 _ _ rfl rfl (by with_unfolding_all rfl) ?_; intro r m hr)) | (go_at_call 79; refine (sqrt_lib _ _).mono ?_; rintro e w' ⟨sv, ms, rfl, hsv, rfl⟩))
      go_roundw
      case rel => exact ⟨r, j + 1, _, rfl, by go_num, by omega, by (have := Hn.out; unfold tS at this; have hk := this; clear this; simp only [*]; first | done | exact hk), by first | rfl | (simp; rfl)⟩
      case measure => simp [intOf]; omega
    · obtain rfl : j = 3 := by omega
      have HU := Lib.hid (uA_iv Ht.out)
      go_wp2_with (first | (with_reducible refine wpList_fop rfl _ _ _ _ _ rfl rfl .f64 _ _ rfl rfl ?_; intro r m hr) | (with_reducible refine wpList_fopg _ _ _ _ _ rfl rfl .f64 _ _ rfl rfl (by with_unfolding_all rfl) ?_; intro r m hr))
      have HU2 := Lib.hid (show Iv (nrm .f64 r) 0 (229 / 100000) from by rw [hr]; exact HU.out)
      clear hr HU
      have P0 := Lib.hid (show Iv (nrm .f64 0) 0 (1001 / 1000) from by unfold Iv; decide +kernel)
      go_loopg [11, 12] 8 (fun g pv kv wr => kv = .int .i64 (2 * (g : Int) - 1) ∧ g ≤ 8 ∧ ∃ p m, pv = .float .f64 p ∧ Iv (nrm .f64 p) 0 (1001 / 1000) ∧ wr = w.drewN m)
      case atStart => exact ⟨rfl, by omega, _, _, rfl, P0.out, by first | rfl | (simp; rfl)⟩
      case round =>
        obtain ⟨rfl, hj, p, m, rfl, hp, rfl⟩ := hrel
        have Hp := Lib.hid hp
        clear hp
        by_cases hlt : 0 < gk
        · obtain ⟨c, rfl⟩ : ∃ c, gk = c + 1 := ⟨gk - 1, by omega⟩
          have e1 : 2 * ((c + 1 : Nat) : Int) - 1 = 2 * (c : Int) + 1 := by omega
          rw [e1]
          have j1 : (1 : Int) ≤ 2 * (c : Int) + 1 := by omega
          have Hi := Lib.hid (pA_iv HU2.out Hp.out (kA_iv (7 - c) (by omega)))
          have Hk := Lib.hid (show nrm .f64 (floatOfInt .f64 (2 * (c : Int) + 1)) = kA (7 - c) from by unfold kA; congr 2; omega)
          have q1 : IntKind.i64.wrap (2 * (c : Int) + 1 - 2) = 2 * (c : Int) - 1 := by rw [show 2 * (c : Int) + 1 - 2 = 2 * (c : Int) - 1 by omega]; exact IntWalk.i64_in _ ⟨by omega, by omega⟩
          go_wp2_with (first | (with_reducible refine wpList_fop rfl _ _ _ _ _ rfl rfl .f64 _ _ rfl rfl ?_; intro r m hr) | (with_reducible refine wpList_fopg _ _ _ _ _ rfl rfl .f64 _ _ rfl rfl (by with_unfolding_all rfl) ?_; intro r m hr))
          go_roundg c
          case measure => omega
          case rel =>
            refine ⟨by first | rfl | go_num, by omega, _, _, rfl, ?_, by first | rfl | (simp only [World.drewN_drewN]; rfl)⟩
            have hkk := Hi.out
            rw [← Hk.out] at hkk
            simp only [*]
            first | done | exact hkk
        · obtain rfl : gk = 0 := by omega
          have Hi := Lib.hid (angS_iv Ht.out Hp.out)
          have HQ := Lib.hid (fun (q1 q2 q3 : Nat) (e1 : nrm .f64 q1 = fop .mul .f64 (nrm .f64 t) (nrm .f64 p)) (e2 : nrm .f64 q2 = fop .mul .f64 (nrm .f64 4620693217682128896) (nrm .f64 q1)) (e3 : nrm .f64 q3 = fop .quo .f64 (nrm .f64 q2) (nrm .f64 4618760256179416344)) => show In q3 0 (6083 / 100000) from by
            unfold In; rw [e3, e2, e1]; exact Hi.out)
          cases hneg : fcmp .lss .f64 y 0
          · go_wp2_with (first | (with_reducible refine wpList_fop rfl _ _ _ _ _ rfl rfl .f64 _ _ rfl rfl ?_; intro r m hr; first | (have hq3 := HQ.out _ _ _ hq1 hq2 hr) | (have _c := hq1; have hq2 := hr) | (have hq1 := hr)))
            go_ret
            exact ⟨_, _, rfl, hq3.mono (by decide +kernel) (Rat.le_refl), by first | rfl | (simp only [World.drewN_drewN]; rfl)⟩
          · go_wp2_with (first | (with_reducible refine wpList_fop rfl _ _ _ _ _ rfl rfl .f64 _ _ rfl rfl ?_; intro r m hr; first | (have hq3 := HQ.out _ _ _ hq1 hq2 hr) | (have _c := hq1; have hq2 := hr) | (have hq1 := hr)))
            go_ret
            exact ⟨_, _, rfl, (in_neg hq3).mono (by decide +kernel) (by decide +kernel), by first | rfl | (simp only [World.drewN_drewN]; rfl)⟩
set_option maxRecDepth 100000 in
set_option maxHeartbeats 800000 in
theorem angleW_spec0 (y x : Nat) (w : World) (fy : fN .f64 (nrm .f64 y) = true) (fx : fN .f64 (nrm .f64 x) = true) (hy : vN .f64 (nrm .f64 y) = 0) (hx : vN .f64 (nrm .f64 x) = 0) : Calls Tryz.prog 108 #[.float .f64 y, .float .f64 x] w (RetJ (-(6083 / 100000)) (6083 / 100000) w) := by
  have g0 : fN .f64 0 = true := by decide +kernel
  have v0 : vN .f64 0 = 0 := by decide +kernel
  have n64 := nrm64_0
  have ey : nrm .f64 y = y := (raw_of rfl fy).symm
  have ex : nrm .f64 x = x := (raw_of rfl fx).symm
  have sy := self_sub fy
  have sx := self_sub fx
  have cx0 : fcmp .eql .f64 (nrm .f64 x) 0 = true := by rw [cmp_eql fx g0, v0, hx]; simp
  have cy0 : fcmp .eql .f64 (nrm .f64 y) 0 = true := by rw [cmp_eql fy g0, v0, hy]; simp
  rw [ey] at sy cy0
  rw [ex] at sx cx0
  have K := Lib.hid (show In 0 (-(6083 / 100000)) (6083 / 100000) from in_zero.mono (by decide +kernel) (by decide +kernel))
  clear fy fx hy hx g0 v0
  go_enter Tryz.func108, Tryz.ntmps108
  go_wp2_with (first | (with_reducible refine wpList_fop rfl _ _ _ _ _ rfl rfl .f64 _ _ rfl rfl ?_; intro r m hr) | (with_reducible refine wpList_fopg _ _ _ _ _ rfl rfl .f64 _ _ rfl rfl (by with_unfolding_all rfl) ?_; intro r m hr))
  go_ret
  exact ⟨_, _, rfl, K.out, by first | rfl | (simp only [World.drewN_drewN]; rfl)⟩
def RetAngS (w : World) (e : Ending) (w' : World) : Prop := ∃ r m, e = .returned (.float .f32 r) ∧ AngOk r ∧ w' = w.drewN m
set_option maxRecDepth 100000 in
set_option maxHeartbeats 800000 in
theorem angleOf_spec (z : C2) (w : World) (h : AngC z) : Calls Tryz.prog 83 #[.complex .f32 z.1 z.2] w (RetAngS w) := by
  have H := Lib.hid (show ∀ ry rx w1, nrm .f64 ry = wd (nrm .f32 z.2) → nrm .f64 rx = wd (nrm .f32 z.1) → Calls Tryz.prog 108 #[.float .f64 ry, .float .f64 rx] w1 (RetJ (-(6083 / 100000)) (6083 / 100000) w1) from fun ry rx w1 hry hrx => by
    rcases h with h | ⟨h1, h2⟩
    · obtain ⟨l1, f1, v1, _, _⟩ := wid_abs h.fy h.by_ hry
      obtain ⟨l2, f2, v2, _, _⟩ := wid_abs h.fx h.bx hrx
      exact angleW_spec ry rx w1 l1 l2 f1 f2 (by rw [v2]; exact h.pos) (by rw [v1, v2]; exact h.le)
    · have e1 : vN .f32 (nrm .f32 z.1) = 0 := congrArg Q2.re h2
      have e2 : vN .f32 (nrm .f32 z.2) = 0 := congrArg Q2.im h2
      obtain ⟨_, f1, v1, _, _⟩ := wid_abs h1.2 (by rw [e2, A_zero]; exact p2_pos _) hry
      obtain ⟨_, f2, v2, _, _⟩ := wid_abs h1.1 (by rw [e1, A_zero]; exact p2_pos _) hrx
      exact angleW_spec0 ry rx w1 f1 f2 (by rw [v1, e2]) (by rw [v2, e1]))
  clear h
  go_enter Tryz.func83, Tryz.ntmps83
  go_wp2_with (first | (with_reducible refine wpList_wid rfl _ rfl _ rfl ?_; intro r m hr; first | (have hx2 := hr; have _c := hy1) | (have hy1 := hr)))
  refine (H.out _ _ _ hy1 hx2).mono ?_
  rintro e w' ⟨a, ma, rfl, ha, rfl⟩
  have Ha := Lib.hid ha
  have Fa := Lib.hid (in_nw ha (by decide +kernel) (by decide +kernel)).1
  clear ha
  go_wp2_with fail
  (go_at_call 88; ((with_reducible refine (narrow_spec a Fa _).mono ?_); rintro e w' ⟨b, mb, rfl, hb, rfl⟩))
  have K := Lib.hid (ang_mk hb Ha.out (Rat.le_refl) (Rat.le_refl))
  clear hb
  go_wp2_with fail
  go_ret
  exact ⟨_, _, rfl, K.out, by first | rfl | (simp only [World.drewN_drewN]; rfl)⟩
end Go.Proofs.YtdnoilcfgicnnaaGreat
