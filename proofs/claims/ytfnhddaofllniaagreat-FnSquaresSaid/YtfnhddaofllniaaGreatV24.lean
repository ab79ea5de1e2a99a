/- Logarithms of the reference, exponentials of both: the same words. Conditions: numbers that are finite and not too great. -/
import Derived.Test.YtfnhddaofllniaaGreatV23
import Derived.Test.YtfnhddaofllniaaGreatV16
import Derived.Deep.RegionHeld3
import Derived.Deep.DeepCutAuto
namespace Go.Proofs.YtfnhddaofllniaaGreat
open Go Go.RowKit
set_option linter.unusedSimpArgs false
set_option linter.unusedVariables false

set_option maxRecDepth 100000 in
theorem isInf_false (x : Nat) (w : World) (h : fcmp .gtr .f64 (nrm .f64 x) (nrm .f64 9218868437227405311) = false) : Calls Tryz.prog 111 #[.float .f64 x, .int .i64 1] w fun e w' => e = .returned (.bool false) ∧ w = w' := by
  go_enter Tryz.func111, Tryz.ntmps111
  go_wp2_with fail
  go_ret
  exact ⟨by first | rfl | (rw [h]), rfl⟩
/-- A number whose logarithm is told. -/
structure LogW (x J : Nat) : Prop where
  u : LogUp x J
  n : fcmp .neq .f64 x x = false
  l : fcmp .lss .f64 x (nrm .f64 0) = false
  z : fcmp .eql .f64 x (nrm .f64 0) = false
  i : fcmp .gtr .f64 x (nrm .f64 9218868437227405311) = false
set_option maxRecDepth 100000 in
set_option maxHeartbeats 4000000 in
theorem log_spec (x J : Nat) (w : World) (H : RowKit.Hid (LogW (nrm .f64 x) J)) : Calls Tryz.prog 98 #[.float .f64 x] w (RetF64 (logE (upF (nrm .f64 x) J) J) w) := by
  have hn := H.out.n
  have hl := H.out.l
  have hz := H.out.z
  have HI := Lib.hid (fun w1 => isInf_false x w1 H.out.i)
  have hd : fcmp .geq .f64 (nrm .f64 x) (nrm .f64 4609434218613702656) = false := H.out.u.d
  have HU0 := Lib.hid H.out.u
  go_enter Tryz.func98, Tryz.ntmps98
  go_wp2_with (go_at_call 111; ((with_reducible refine (HI.out _).mono ?_); rintro e w' ⟨rfl, rfl⟩))
  refine wp_loop_rounds 1 ?_
  rw [rounds_succ]
  go_wp2_with fail
  go_loopw [0, 3] (fun xv ev wr => ∃ (r j m : Nat), xv = .float .f64 r ∧ ev = .int .i64 (-(j : Int)) ∧ nrm .f64 r = upF (nrm .f64 x) j ∧ j ≤ J ∧ wr = w.drewN m) (fun _ ev _ => J - (-(intOf ev)).toNat)
  case atStart => exact ⟨x, 0, 0, rfl, rfl, rfl, Nat.zero_le _, rfl⟩
  case round =>
    obtain ⟨r, j, m, rfl, rfl, hr, hj, rfl⟩ := hrel
    have HR := Lib.hid hr
    have jb := HU0.out.h
    by_cases hlt : j < J
    · have hc : fcmp .lss .f64 (nrm .f64 r) (nrm .f64 4604930618986332160) = true := by rw [hr]; exact HU0.out.a j hlt
      have q1 : IntKind.i64.wrap (-(j : Int) - 1) = -((j + 1 : Nat) : Int) := by rw [IntWalk.i64_in _ ⟨by omega, by omega⟩]; omega
      clear hr hn hl hz hd
      go_wp2_with (first | ((with_reducible refine wpList_fop rfl .mul _ _ _ _ rfl rfl .f64 _ _ rfl rfl ?_); intro g2 mg2 hg2))
      have HG2 := Lib.hid (show nrm .f64 g2 = upF (nrm .f64 x) (j + 1) by rw [hg2, HR.out]; rfl)
      go_roundw
      case rel => exact ⟨g2, j + 1, _, rfl, by first | rfl | (rw [q1]) | go_num, HG2.out, by omega, by first | rfl | (simp; rfl)⟩
      case measure => simp [intOf]; omega
    · obtain rfl : j = J := by omega
      have hc : fcmp .lss .f64 (nrm .f64 r) (nrm .f64 4604930618986332160) = false := by rw [hr]; exact HU0.out.b
      clear hr hn hl hz hd
      go_wp2_with (first | ((with_reducible refine wpList_fop rfl .sub _ _ _ _ rfl rfl .f64 _ _ rfl rfl ?_); intro s1 ms1 hs1) | ((with_reducible refine wpList_fop rfl .add _ _ _ _ rfl rfl .f64 _ _ rfl rfl ?_); intro s2 ms2 hs2) | ((with_reducible refine wpList_fop rfl .quo _ _ _ _ rfl rfl .f64 _ _ rfl rfl ?_); intro s3 ms3 hs3) | ((with_reducible refine wpList_fop rfl .mul _ _ _ _ rfl rfl .f64 _ _ rfl rfl ?_); intro u1 mu1 hu1))
      have HS := Lib.hid (show nrm .f64 s3 = slF (upF (nrm .f64 x) j) by rw [hs3, hs1, hs2, HR.out]; rfl)
      have HU := Lib.hid (show nrm .f64 u1 = fop .mul .f64 (slF (upF (nrm .f64 x) j)) (slF (upF (nrm .f64 x) j)) by rw [hu1, HS.out])
      clear hs3 hs1 hs2 hu1 hc
      go_loopw [6, 7] (fun qv kv wr => ∃ (q i m : Nat), qv = .float .f64 q ∧ kv = .int .i64 (25 - 2 * (i : Int)) ∧ nrm .f64 q = serF (nrm .f64 u1) i ∧ i ≤ 13 ∧ wr = w.drewN m) (fun _ kv _ => (intOf kv + 1).toNat)
      case atStart => exact ⟨0, 0, _, rfl, rfl, rfl, by omega, by first | rfl | (simp; rfl)⟩
      case round =>
        obtain ⟨q, i, mq, rfl, rfl, hq, hi, rfl⟩ := hrel
        have HQ := Lib.hid hq
        by_cases hin : i < 13
        · have j1 : (1 : Int) ≤ 25 - 2 * (i : Int) := by omega
          have q1 : IntKind.i64.wrap (25 - 2 * (i : Int) - 2) = 25 - 2 * ((i + 1 : Nat) : Int) := by rw [IntWalk.i64_in _ ⟨by omega, by omega⟩]; omega
          clear hq
          obtain ⟨kk, hkk⟩ : ∃ kk, kk = 25 - 2 * (i : Int) := ⟨_, rfl⟩
          have HKK := Lib.hid hkk
          rw [← hkk] at j1 q1 ⊢
          clear hkk
          go_wp2_with (first | ((with_reducible refine wpList_fop rfl .quo _ _ _ _ rfl rfl .f64 _ _ rfl rfl ?_); intro p1 mp1 hp1) | ((with_reducible refine wpList_fop rfl .mul _ _ _ _ rfl rfl .f64 _ _ rfl rfl ?_); intro p2 mp2 hp2) | ((with_reducible refine wpList_fop rfl .add _ _ _ _ rfl rfl .f64 _ _ rfl rfl ?_); intro p3 mp3 hp3))
          have HG1 := Lib.hid (show nrm .f64 p3 = serF (nrm .f64 u1) (i + 1) by rw [hp3, hp1, hp2, HQ.out, HKK.out]; rfl)
          go_roundw
          case rel => exact ⟨p3, i + 1, _, rfl, by first | rfl | (rw [q1]) | go_num, HG1.out, by omega, by first | rfl | (simp; rfl)⟩
          case measure =>
            have := HKK.out
            simp [intOf]; omega
        · obtain rfl : i = 13 := by omega
          have j1 : ¬ ((1 : Int) ≤ 25 - 2 * ((13 : Nat) : Int)) := by decide
          have HE := Lib.hid (show nrm .f64 (floatOfInt .f64 (-(j : Int))) = nrm .f64 (eW j) from rfl)
          obtain ⟨ee, hee⟩ : ∃ ee, ee = -(j : Int) := ⟨_, rfl⟩
          rw [← hee] at HE ⊢
          have HEE := Lib.hid hee
          clear hq hee
          go_wp2_with (with_reducible refine wpList_fop rfl _ _ _ _ _ rfl rfl .f64 _ _ rfl rfl ?_; intro f mf hf)
          go_ret
          have h1 := HQ.out
          have h2 := HS.out
          have h4 := HU.out
          have h5 := HE.out
          rw [h4] at h1
          exact ⟨_, _, rfl, by simp only [logE, h1, h2, h5, *], by first | rfl | (simp; rfl)⟩

def k2 (i : Nat) : Nat := floatOfInt .f64 (12 - (i : Int))
def pF (t : Nat) : Nat → Nat | 0 => nrm .f64 4607182418800017408 | i + 1 => fop .add .f64 (nrm .f64 4607182418800017408) (fop .quo .f64 (fop .mul .f64 t (pF t i)) (nrm .f64 (k2 i)))
def sqI (p : Nat) : Nat → Nat | 0 => p | i + 1 => fop .mul .f64 (sqI p i) (sqI p i)
def expE (y : Nat) : Nat := sqI (pF (fop .quo .f64 y (nrm .f64 4643211215818981376)) 12) 8
theorem k2T : ∀ i, i < 12 → nrm .f64 (k2 i) = k2 i ∧ fcmp .geq .f64 (k2 i) (nrm .f64 4607182418800017408) = true ∧ fop .sub .f64 (k2 i) (nrm .f64 4607182418800017408) = k2 (i + 1) ∧ (vN .f64 (k2 i)).num.toNat = 12 - i := by decide +kernel
theorem k2E : nrm .f64 (k2 12) = k2 12 ∧ fcmp .geq .f64 (k2 12) (nrm .f64 4607182418800017408) = false ∧ (vN .f64 (k2 12)).num.toNat = 0 := by decide +kernel
theorem k20 : nrm .f64 4622945017495814144 = k2 0 := by decide +kernel
structure ExpW (y : Nat) : Prop where
  n : fcmp .neq .f64 y y = false
  g : fcmp .gtr .f64 y (nrm .f64 4641240890982006784) = false
  l : fcmp .lss .f64 y (nrm .f64 13864612927836782592) = false
set_option maxRecDepth 100000 in
set_option maxHeartbeats 4000000 in
theorem exp_impl (x : Nat) (w : World) (H : RowKit.Hid (ExpW (nrm .f64 x))) : Calls Tryz.prog 93 #[.float .f64 x] w (RetF64 (expE (nrm .f64 x)) w) := by
  have hg := H.out.g
  have hl := H.out.l
  have K0 := Lib.hid k20
  go_enter Tryz.func93, Tryz.ntmps93
  go_wp2_with (first | ((with_reducible refine wpList_fop rfl .quo _ _ _ _ rfl rfl .f64 _ _ rfl rfl ?_); intro t1 mt1 ht1))
  have HT := Lib.hid ht1
  clear hg hl ht1
  go_loopw [4, 5] (fun pv kv wr => ∃ (p k i m : Nat), pv = .float .f64 p ∧ kv = .float .f64 k ∧ nrm .f64 p = pF (nrm .f64 t1) i ∧ nrm .f64 k = k2 i ∧ i ≤ 12 ∧ wr = w.drewN m) (fun _ kv _ => (vN .f64 (nrm .f64 (flW kv))).num.toNat)
  case atStart => exact ⟨4607182418800017408, _, 0, _, rfl, rfl, rfl, K0.out, by omega, by first | rfl | (simp; rfl)⟩
  case round =>
    obtain ⟨p, k, i, m, rfl, rfl, hp, hk, hi, rfl⟩ := hrel
    have HP := Lib.hid hp
    have HK := Lib.hid hk
    by_cases hin : i < 12
    · have KT := Lib.hid (k2T i hin)
      have hc : fcmp .geq .f64 (nrm .f64 k) (nrm .f64 4607182418800017408) = true := by rw [hk]; exact KT.out.2.1
      clear hp hk
      go_wp2_with (first | ((with_reducible refine wpList_fop rfl .mul _ _ _ _ rfl rfl .f64 _ _ rfl rfl ?_); intro p1 mp1 hp1) | ((with_reducible refine wpList_fop rfl .quo _ _ _ _ rfl rfl .f64 _ _ rfl rfl ?_); intro p2 mp2 hp2) | ((with_reducible refine wpList_fop rfl .add _ _ _ _ rfl rfl .f64 _ _ rfl rfl ?_); intro p3 mp3 hp3) | ((with_reducible refine wpList_fop rfl .sub _ _ _ _ rfl rfl .f64 _ _ rfl rfl ?_); intro p4 mp4 hp4))
      have HG1 := Lib.hid (show nrm .f64 p3 = pF (nrm .f64 t1) (i + 1) by rw [hp3, hp2, hp1, HP.out, HK.out, pF, KT.out.1])
      have HG2 := Lib.hid (show nrm .f64 p4 = k2 (i + 1) by rw [hp4, HK.out]; exact KT.out.2.2.1)
      go_roundw
      case rel => exact ⟨p3, p4, i + 1, _, rfl, rfl, HG1.out, HG2.out, by omega, by first | rfl | (simp; rfl)⟩
      case measure =>
        have a1 : (vN .f64 (nrm .f64 p4)).num.toNat ≤ 12 - (i + 1) := by
          rw [HG2.out]
          by_cases h12 : i + 1 < 12
          · rw [(k2T (i + 1) h12).2.2.2]; exact Nat.le_refl _
          · obtain rfl : i = 11 := by omega
            rw [k2E.2.2]; omega
        have a2 : (vN .f64 (nrm .f64 k)).num.toNat = 12 - i := by rw [HK.out]; exact KT.out.2.2.2
        simp [flW, a2]; omega
    · obtain rfl : i = 12 := by omega
      have hc : fcmp .geq .f64 (nrm .f64 k) (nrm .f64 4607182418800017408) = false := by rw [hk]; exact k2E.2.1
      clear hp hk
      go_wp2_with fail
      go_loopw [4, 25] (fun pv iv wr => ∃ (q i m : Nat), pv = .float .f64 q ∧ iv = .int .i64 (i : Int) ∧ nrm .f64 q = sqI (pF (nrm .f64 t1) 12) i ∧ i ≤ 8 ∧ wr = w.drewN m) (fun _ iv _ => 8 - (intOf iv).toNat)
      case atStart => exact ⟨p, 0, _, rfl, rfl, HP.out, by omega, by first | rfl | (simp; rfl)⟩
      case round =>
        obtain ⟨q, i, mq, rfl, rfl, hq, hi, rfl⟩ := hrel
        have HQ := Lib.hid hq
        by_cases hin : i < 8
        · have j1 : (i : Int) < 8 := by omega
          clear hq hc
          go_wp2_with (first | ((with_reducible refine wpList_fop rfl .mul _ _ _ _ rfl rfl .f64 _ _ rfl rfl ?_); intro p1 mp1 hp1))
          have HG1 := Lib.hid (show nrm .f64 p1 = sqI (pF (nrm .f64 t1) 12) (i + 1) by rw [hp1, HQ.out]; rfl)
          go_roundw
          case rel => exact ⟨p1, i + 1, _, rfl, by go_num, HG1.out, by omega, by first | rfl | (simp; rfl)⟩
          case measure => simp [intOf]; omega
        · obtain rfl : i = 8 := by omega
          clear hc
          go_wp2_with fail
          go_ret
          exact ⟨_, _, rfl, by rw [hq, HT.out]; rfl, by first | rfl | (simp; rfl)⟩
set_option maxRecDepth 100000 in
set_option maxHeartbeats 4000000 in
theorem exp_spec (x : Nat) (w : World) (H : RowKit.Hid (ExpW (nrm .f64 x))) : Calls Tryz.prog 97 #[.float .f64 x] w (RetF64 (expE (nrm .f64 x)) w) := by
  have hg := H.out.g
  have hl := H.out.l
  have hn := H.out.n
  go_enter Tryz.func97, Tryz.ntmps97
  go_wp2_with (first | ((with_reducible refine wpList_fop rfl .quo _ _ _ _ rfl rfl .f64 _ _ rfl rfl ?_); intro t1 mt1 ht1))
  have HT := Lib.hid ht1
  clear hg hl hn ht1
  go_loopw [4, 5] (fun pv kv wr => ∃ (p i m : Nat), pv = .float .f64 p ∧ kv = .int .i64 (12 - (i : Int)) ∧ nrm .f64 p = pF (nrm .f64 t1) i ∧ i ≤ 12 ∧ wr = w.drewN m) (fun _ kv _ => (intOf kv).toNat)
  case atStart => exact ⟨4607182418800017408, 0, _, rfl, rfl, rfl, by omega, by first | rfl | (simp; rfl)⟩
  case round =>
    obtain ⟨p, i, m, rfl, rfl, hp, hi, rfl⟩ := hrel
    have HP := Lib.hid hp
    by_cases hin : i < 12
    · have j1 : (1 : Int) ≤ 12 - (i : Int) := by omega
      have q1 : IntKind.i64.wrap (12 - (i : Int) - 1) = 12 - ((i + 1 : Nat) : Int) := by rw [IntWalk.i64_in _ ⟨by omega, by omega⟩]; omega
      obtain ⟨kk, hkk⟩ : ∃ kk, kk = 12 - (i : Int) := ⟨_, rfl⟩
      have HKK := Lib.hid hkk
      rw [← hkk] at j1 q1 ⊢
      clear hp hkk
      go_wp2_with (first | ((with_reducible refine wpList_fop rfl .mul _ _ _ _ rfl rfl .f64 _ _ rfl rfl ?_); intro p1 mp1 hp1) | ((with_reducible refine wpList_fop rfl .quo _ _ _ _ rfl rfl .f64 _ _ rfl rfl ?_); intro p2 mp2 hp2) | ((with_reducible refine wpList_fop rfl .add _ _ _ _ rfl rfl .f64 _ _ rfl rfl ?_); intro p3 mp3 hp3))
      have HG1 := Lib.hid (show nrm .f64 p3 = pF (nrm .f64 t1) (i + 1) by rw [hp3, hp2, hp1, HP.out, HKK.out]; rfl)
      go_roundw
      case rel => exact ⟨p3, i + 1, _, rfl, by first | rfl | (rw [q1]) | go_num, HG1.out, by omega, by first | rfl | (simp; rfl)⟩
      case measure =>
        have := HKK.out
        simp [intOf]; omega
    · obtain rfl : i = 12 := by omega
      have j1 : ¬ ((1 : Int) ≤ 12 - ((12 : Nat) : Int)) := by decide
      clear hp
      go_wp2_with fail
      go_loopw [4, 6] (fun pv iv wr => ∃ (q i m : Nat), pv = .float .f64 q ∧ iv = .int .i64 (i : Int) ∧ nrm .f64 q = sqI (pF (nrm .f64 t1) 12) i ∧ i ≤ 8 ∧ wr = w.drewN m) (fun _ iv _ => 8 - (intOf iv).toNat)
      case atStart => exact ⟨p, 0, _, rfl, rfl, HP.out, by omega, by first | rfl | (simp; rfl)⟩
      case round =>
        obtain ⟨q, i, mq, rfl, rfl, hq, hi, rfl⟩ := hrel
        have HQ := Lib.hid hq
        by_cases hin : i < 8
        · have j2 : (i : Int) < 8 := by omega
          clear hq
          go_wp2_with (first | ((with_reducible refine wpList_fop rfl .mul _ _ _ _ rfl rfl .f64 _ _ rfl rfl ?_); intro p1 mp1 hp1))
          have HG1 := Lib.hid (show nrm .f64 p1 = sqI (pF (nrm .f64 t1) 12) (i + 1) by rw [hp1, HQ.out]; rfl)
          go_roundw
          case rel => exact ⟨p1, i + 1, _, rfl, by go_num, HG1.out, by omega, by first | rfl | (simp; rfl)⟩
          case measure => simp [intOf]; omega
        · obtain rfl : i = 8 := by omega
          go_wp2_with fail
          go_ret
          exact ⟨_, _, rfl, by rw [hq, HT.out]; rfl, by first | rfl | (simp; rfl)⟩

/-- Those of float32. -/
def logN (x J : Nat) : Nat := nw (logE (upF (wd x) J) J)
def expN (y : Nat) : Nat := nw (expE (wd y))
structure LogOk (x J : Nat) : Prop where
  w : LogW (wd x) J
  z : fcmp .eql .f32 x (nrm .f32 0) = false
  n : fcmp .neq .f32 x x = false
  l : fcmp .lss .f32 x (nrm .f32 0) = false
  f : finF x = true
  t : fit1 (logE (upF (wd x) J) J)
structure ExpOk (y : Nat) : Prop where
  w : ExpW (wd y)
  t : fit1 (expE (wd y))
set_option maxRecDepth 100000 in
theorem logN_impl (x J : Nat) (w : World) (H : RowKit.Hid (LogOk (nrm .f32 x) J)) : Calls Tryz.prog 50 #[.float .f32 x] w (RetF32 (logN (nrm .f32 x) J) w) := by
  have hz := H.out.z
  have hn := H.out.n
  have hl := H.out.l
  have HF := Lib.hid H.out.f
  have HT := Lib.hid H.out.t
  have HW := Lib.hid H.out.w.u
  go_enter Tryz.func50, Tryz.ntmps50
  go_wp2_with (first | (go_at_call 51; ((with_reducible refine (isFinite_impl x _).mono ?_); rw [HF.out]; rintro e w' ⟨m, rfl, rfl⟩)) | (with_reducible refine wpList_wid rfl _ rfl _ rfl ?_; intro r mr hr))
  (go_at_call 96; ((with_reducible refine (log_impl r J _ (Lib.hid (by rw [hr]; exact HW.out))).mono ?_); rw [hr]; rintro e w' ⟨q, mq, rfl, hq, rfl⟩))
  have HQ := Lib.hid hq
  clear hr hq hz hn hl
  go_wp2_with (with_reducible refine wpList_nar rfl _ rfl _ rfl (by rw [HQ.out]; exact HT.out) ?_; intro s ms hs)
  go_ret
  exact ⟨_, _, rfl, by rw [hs, HQ.out]; rfl, by first | rfl | (simp; rfl)⟩
set_option maxRecDepth 100000 in
theorem logN_spec (x J : Nat) (w : World) (H : RowKit.Hid (LogOk (nrm .f32 x) J)) : Calls Tryz.prog 56 #[.float .f32 x] w (RetF32 (logN (nrm .f32 x) J) w) := by
  go_enter Tryz.func56, Tryz.ntmps56
  go_wp2_with (with_reducible refine wpList_wid rfl _ rfl _ rfl ?_; intro r mr hr)
  (go_at_call 98; ((with_reducible refine (log_spec r J _ (Lib.hid (by rw [hr]; exact H.out.w))).mono ?_); rw [hr]; rintro e w' ⟨q, mq, rfl, hq, rfl⟩))
  have HQ := Lib.hid hq
  clear hr hq
  go_wp2_with fail
  (go_at_call 87; ((with_reducible refine (narrow_spec q (Lib.hid (by rw [HQ.out]; exact H.out.t)) _).mono ?_); rw [HQ.out]; rintro e w' ⟨s, ms, rfl, hs, rfl⟩))
  have HS := Lib.hid hs
  clear hs
  go_wp2_with fail
  go_ret
  exact ⟨_, _, rfl, HS.out, by first | rfl | (simp; rfl)⟩
set_option maxRecDepth 100000 in
theorem expN_impl (x : Nat) (w : World) (H : RowKit.Hid (ExpOk (nrm .f32 x))) : Calls Tryz.prog 49 #[.float .f32 x] w (RetF32 (expN (nrm .f32 x)) w) := by
  go_enter Tryz.func49, Tryz.ntmps49
  go_wp2_with (with_reducible refine wpList_wid rfl _ rfl _ rfl ?_; intro r mr hr)
  (go_at_call 93; ((with_reducible refine (exp_impl r _ (Lib.hid (by rw [hr]; exact H.out.w))).mono ?_); rw [hr]; rintro e w' ⟨q, mq, rfl, hq, rfl⟩))
  have HQ := Lib.hid hq
  clear hr hq
  go_wp2_with (with_reducible refine wpList_nar rfl _ rfl _ rfl (by rw [HQ.out]; exact H.out.t) ?_; intro s ms hs)
  go_ret
  exact ⟨_, _, rfl, by rw [hs, HQ.out]; rfl, by first | rfl | (simp; rfl)⟩
set_option maxRecDepth 100000 in
theorem expN_spec (x : Nat) (w : World) (H : RowKit.Hid (ExpOk (nrm .f32 x))) : Calls Tryz.prog 55 #[.float .f32 x] w (RetF32 (expN (nrm .f32 x)) w) := by
  go_enter Tryz.func55, Tryz.ntmps55
  go_wp2_with (with_reducible refine wpList_wid rfl _ rfl _ rfl ?_; intro r mr hr)
  (go_at_call 97; ((with_reducible refine (exp_spec r _ (Lib.hid (by rw [hr]; exact H.out.w))).mono ?_); rw [hr]; rintro e w' ⟨q, mq, rfl, hq, rfl⟩))
  have HQ := Lib.hid hq
  clear hr hq
  go_wp2_with fail
  (go_at_call 87; ((with_reducible refine (narrow_spec q (Lib.hid (by rw [HQ.out]; exact H.out.t)) _).mono ?_); rw [HQ.out]; rintro e w' ⟨s, ms, rfl, hs, rfl⟩))
  have HS := Lib.hid hs
  clear hs
  go_wp2_with fail
  go_ret
  exact ⟨_, _, rfl, HS.out, by first | rfl | (simp; rfl)⟩
end Go.Proofs.YtfnhddaofllniaaGreat

/- Lists of float32: all positive, all finite, the same. Conditions: lengths of at most 2^40. -/
namespace Go.Proofs.YtfnhddaofllniaaGreat
open Go Go.RowKit
set_option linter.unusedSimpArgs false
set_option linter.unusedVariables false

def allAb (rs : List Nat) : Bool := rs.all fun r => aboveF (nrm .f32 r)
theorem not_above {x : Nat} (h : finF x = true) : fcmp .leq .f32 x (nrm .f32 0) = !aboveF x := by
  rw [leq_gtr h, aboveF, h, Bool.true_and]
theorem notAbove_impl (x : Nat) (w : World) : Calls Tryz.prog 92 #[.float .f32 x] w (RetB (!aboveF (nrm .f32 x)) w) := by
  cases hf : finF (nrm .f32 x)
  · have H := Lib.hid (show (!aboveF (nrm .f32 x)) = true by simp [aboveF, hf])
    rw [H.out]
    go_enter Tryz.func92, Tryz.ntmps92
    go_wp2_with (go_at_call 51; ((with_reducible refine (isFinite_impl x _).mono ?_); rintro e w' ⟨m, rfl, rfl⟩))
    go_ret
    exact ⟨_, rfl, rfl⟩
  · have H := Lib.hid (not_above hf)
    go_enter Tryz.func92, Tryz.ntmps92
    go_wp2_with (go_at_call 51; ((with_reducible refine (isFinite_impl x _).mono ?_); rintro e w' ⟨m, rfl, rfl⟩))
    go_ret
    exact ⟨_, by first | rfl | (rw [H.out]; rfl), rfl⟩
theorem allAb_true_iff (rs : List Nat) : allAb rs = true ↔ ∀ i (h : i < rs.length), aboveF (nrm .f32 rs[i]) = true := by
  simp only [allAb, List.all_eq_true]
  constructor
  · intro h i hi; exact h _ (List.getElem_mem hi)
  · intro h x hx
    obtain ⟨i, hi, rfl⟩ := List.getElem_of_mem hx
    exact h i hi
theorem allAb_false {rs : List Nat} {i : Nat} (h : i < rs.length) (hf : aboveF (nrm .f32 rs[i]) = false) : allAb rs = false := by
  cases ha : allAb rs with
  | false => rfl
  | true => rw [allAb_true_iff] at ha; rw [ha i h] at hf; cases hf
theorem allAb_take {rs : List Nat} {k : Nat} (h : ∀ i (h : i < rs.length), i < k → aboveF (nrm .f32 rs[i]) = true) (hk : rs.length ≤ k) : allAb rs = true :=
  (allAb_true_iff rs).2 fun i hi => h i hi (by omega)

def AbUpto (rs : List Nat) (k : Nat) : Prop := ∀ i (h : i < rs.length), i < k → aboveF (nrm .f32 rs[i]) = true
theorem AbUpto.zero (rs : List Nat) : AbUpto rs 0 := fun _ _ h => absurd h (by omega)
theorem AbUpto.succ {rs : List Nat} {k : Nat} (h : AbUpto rs k) (hk : k < rs.length) (hf : aboveF (nrm .f32 rs[k]) = true) : AbUpto rs (k + 1) := fun i hi hik => by
  by_cases e : i = k
  · subst e; exact hf
  · exact h i hi (by omega)

set_option maxRecDepth 100000 in
set_option maxHeartbeats 400000 in
theorem indexAb_impl (v : Value) (rs : List Nat) (w : World) (hv : RdV w v (fl rs)) (hl : rs.length ≤ 1099511627776) :
    Calls Tryz.prog 109 #[v, .func (.func 92) #[] #[]] w (RetIx (!allAb rs) w) := by
  rcases hv.openF with ⟨rfl, ao, cap, rfl⟩ | ⟨b, off, cap, rfl, hb, hcp, hc⟩
  · clear hv
    go_enter Tryz.func109, Tryz.ntmps109
    go_wp2
    refine wp_loop_rounds 1 ?_
    rw [rounds_succ]
    go_wp2
    go_ret
    exact ⟨-1, 0, rfl, rfl, rfl⟩
  · have Hc := Lib.hid hc
    clear hc hv
    go_enter Tryz.func109, Tryz.ntmps109
    go_wp2
    go_loopw [8] (fun i wr => ∃ k m : Nat, k ≤ rs.length ∧ i = .int .i64 k ∧ wr = w.drewN m ∧ AbUpto rs k) (fun i _ => rs.length - (intOf i).toNat)
    case atStart => exact ⟨0, 0, Nat.zero_le _, rfl, rfl, AbUpto.zero rs⟩
    case round =>
      obtain ⟨k, m, hk, rfl, rfl, hf⟩ := hrel
      by_cases hlt : k < rs.length
      · have c1 := Hc.out k hlt
        by_cases hx : aboveF (nrm .f32 rs[k]) = true
        · have H2 := Lib.hid (hf.succ hlt hx)
          clear hf
          go_wp2_with (go_at_call 92; refine (notAbove_impl _ _).mono ?_; rintro e w' ⟨m, rfl, rfl⟩)
          go_roundw
          case rel => exact ⟨k + 1, _, by omega, by go_num, by first | rfl | simp [Nat.add_assoc], H2.out⟩
          case measure => simp [intOf]; omega
        · have hx : aboveF (nrm .f32 rs[k]) = false := by simpa using hx
          have H2 := Lib.hid (allAb_false hlt hx)
          clear hf
          go_wp2_with (go_at_call 92; refine (notAbove_impl _ _).mono ?_; rintro e w' ⟨m, rfl, rfl⟩)
          go_ret
          rw [H2.out]
          exact ⟨_, _, rfl, by simp, by first | rfl | (simp; rfl)⟩
      · have H2 := Lib.hid (allAb_take hf (by omega))
        clear hf
        go_wp2
        go_ret
        rw [H2.out]
        exact ⟨_, _, rfl, by simp, rfl⟩

set_option maxRecDepth 100000 in
theorem containsAb_impl (v : Value) (rs : List Nat) (w : World) (hv : RdV w v (fl rs)) (hl : rs.length ≤ 1099511627776) :
    Calls Tryz.prog 91 #[v, .func (.func 92) #[] #[]] w (RetB (!allAb rs) w) := by
  have Hv := Lib.hid hv
  clear hv
  go_enter Tryz.func91, Tryz.ntmps91
  go_wp2_with (go_at_call 109; refine (indexAb_impl _ _ _ Hv.out hl).mono ?_; rintro e w' ⟨j, m, rfl, hj, rfl⟩)
  all_goals
    go_ret
    exact ⟨_, by simp [*], rfl⟩


set_option maxRecDepth 100000 in
theorem arePositive_impl (v : Value) (rs : List Nat) (w : World) (hv : RdV w v (fl rs)) (hl : rs.length ≤ 1099511627776) :
    Calls Tryz.prog 48 #[v] w (RetB (allAb rs) w) := by
  have Hv := Lib.hid hv
  clear hv
  go_enter Tryz.func48, Tryz.ntmps48
  go_wp2_with (go_at_call 91; refine (containsAb_impl _ _ _ Hv.out hl).mono ?_; rintro e w' ⟨m, rfl, rfl⟩)
  go_ret
  exact ⟨_, by simp, rfl⟩
set_option maxRecDepth 100000 in
set_option maxHeartbeats 400000 in
theorem finList_spec (v : Value) (rs : List Nat) (w : World) (hv : RdV w v (fl rs)) (hl : rs.length ≤ 1099511627776) :
    Calls Tryz.prog 57 #[v] w (RetB (allFin rs) w) := by
  rcases hv.openF with ⟨rfl, ao, cap, rfl⟩ | ⟨b, off, cap, rfl, hb, hcp, hc⟩
  · go_enter Tryz.func57, Tryz.ntmps57
    go_wp2
    refine wp_loop_rounds 1 ?_
    rw [rounds_succ]
    go_wp2
    go_ret
    exact ⟨0, rfl, rfl⟩
  · have Hc := Lib.hid hc
    clear hc
    go_enter Tryz.func57, Tryz.ntmps57
    go_wp2
    go_loopw [3] (fun i wr => ∃ k m : Nat, k ≤ rs.length ∧ i = .int .i64 k ∧ wr = w.drewN m ∧ FinUpto rs k) (fun i _ => rs.length - (intOf i).toNat)
    case atStart => exact ⟨0, 0, Nat.zero_le _, rfl, rfl, FinUpto.zero rs⟩
    case round =>
      obtain ⟨k, m, hk, rfl, rfl, hf⟩ := hrel
      by_cases hlt : k < rs.length
      · have c1 := Hc.out k hlt
        by_cases hx : finF (nrm .f32 rs[k]) = true
        · have H2 := Lib.hid (hf.succ hlt hx)
          clear hf
          go_wp2_with (go_at_call 80; refine (isFinite_spec _ _).mono ?_; rintro e w' ⟨m, rfl, rfl⟩)
          go_roundw
          case rel => exact ⟨k + 1, _, by omega, by go_num, by first | rfl | simp [Nat.add_assoc], H2.out⟩
          case measure => simp [intOf]; omega
        · have hx : finF (nrm .f32 rs[k]) = false := by simpa using hx
          have H2 := Lib.hid (allFin_false hlt hx)
          clear hf
          go_wp2_with (go_at_call 80; refine (isFinite_spec _ _).mono ?_; rintro e w' ⟨m, rfl, rfl⟩)
          go_ret
          rw [H2.out]
          exact ⟨_, rfl, by first | rfl | (simp; rfl)⟩
      · have H2 := Lib.hid (allFin_take hf (by omega))
        clear hf
        go_wp2
        go_ret
        rw [H2.out]
        exact ⟨_, rfl, rfl⟩

theorem run_bits32 (x : Nat) (w : World) : (callFunc 117 #[.float .f32 x]).run Tryz.prog w = .ok (.value (.int .u32 x)) w := by kernel_rfl
set_option maxRecDepth 100000 in
theorem bits_spec (x : Nat) (w : World) (h : fcmp .neq .f32 (nrm .f32 x) (nrm .f32 x) = false) : Calls Tryz.prog 104 #[.float .f32 x] w fun e w' => e = .returned (.int .i64 (wrap64 (x : Int))) ∧ w = w' := by
  have RB := fun w1 => run_bits32 x w1
  go_enter Tryz.func104, Tryz.ntmps104
  go_wp2_with fail
  go_ret
  exact ⟨by first | rfl | simp, by first | rfl | simp⟩
set_option maxRecDepth 100000 in
theorem same_spec (x y : Nat) (w : World) (h : fcmp .neq .f32 (nrm .f32 x) (nrm .f32 x) = false) (hxy : x = y) : Calls Tryz.prog 21 #[.float .f32 x, .float .f32 y] w fun e w' => e = .returned (.bool true) ∧ w = w' := by
  subst hxy
  have HB := Lib.hid (fun w1 => bits_spec x w1 h)
  have H1 := Lib.hid (show ∀ w1, Calls Tryz.prog 70 #[.float .f32 x, .float .f32 x] w1 fun e w' => e = .returned (.bool true) ∧ w1 = w' from fun w1 => by
    go_enter Tryz.func70, Tryz.ntmps70
    go_wp2_with (go_at_call 104; ((with_reducible refine (HB.out _).mono ?_); rintro e w' ⟨rfl, rfl⟩))
    go_ret
    exact ⟨by first | rfl | simp, rfl⟩)
  clear h
  go_enter Tryz.func21, Tryz.ntmps21
  go_wp2_with (go_at_call 70; ((with_reducible refine (H1.out _).mono ?_); rintro e w' ⟨rfl, rfl⟩))
  go_ret
  exact ⟨rfl, rfl⟩
set_option maxRecDepth 100000 in
set_option maxHeartbeats 1000000 in
theorem b10List_law (va vb : Value) (xs ys : List Nat) (w : World) (ha : RdV w va (fl xs)) (hb : RdV w vb (fl ys)) (h1 : 1 ≤ xs.length) (h2 : xs.length ≤ 17) (hxy : xs = ys) (hn : ∀ i, i < xs.length → fcmp .neq .f32 (nrm .f32 (xs.getD i 0)) (nrm .f32 (xs.getD i 0)) = false) :
    Calls Tryz.prog 16 #[va, vb] w (RB true w) := by
  subst hxy
  rcases ha.openF with ⟨rfl, _⟩ | ⟨b, off, cap, rfl, hb0, hcp, hc⟩
  · simp at h1
  rcases hb.openF with ⟨rfl, _⟩ | ⟨d, doff, dcap, rfl, hd0, hdp, hdc⟩
  · simp at h1
  have Hc := Lib.hid (show ∀ i, i < xs.length → w.cell? ⟨b, off + i, none⟩ = some (.float .f32 (xs.getD i 0)) from fun i hi => by rw [hc i hi]; simp [List.getD, hi])
  have Hd := Lib.hid (show ∀ i, i < xs.length → w.cell? ⟨d, doff + i, none⟩ = some (.float .f32 (xs.getD i 0)) from fun i hi => by rw [hdc i hi]; simp [List.getD, hi])
  have HN := Lib.hid hn
  clear hc hdc hcp hdp hn
  go_enter Tryz.func16, Tryz.ntmps16
  go_wp2_with fail
  go_loopw [13] (fun iv wr => ∃ (i : Nat), i ≤ xs.length ∧ iv = .int .i64 (i : Int) ∧ Below w.heap.size w wr) (fun iv _ => xs.length - (intOf iv).toNat)
  case atStart => exact ⟨0, Nat.zero_le _, rfl, Below.refl _ _⟩
  case round =>
    obtain ⟨i, hi, rfl, hbel⟩ := hrel
    by_cases hin : i < xs.length
    · have c1 := (hbel.cell (p := ⟨b, off + i, none⟩) hb0).trans (Hc.out i hin)
      have c2 := (hbel.cell (p := ⟨d, doff + i, none⟩) hd0).trans (Hd.out i hin)
      have HBEL := Lib.hid hbel
      clear hbel
      have nn := HN.out i hin
      generalize xs.getD i 0 = x at *
      have HS := Lib.hid (fun w1 => same_spec x x w1 nn rfl)
      have j0 : (0 : Int) ≤ (i : Int) := by omega
      have j1 : (i : Int) < (xs.length : Int) := by omega
      clear nn
      go_upto_region 6 with fail
      go_cut [25] (fun v25 wx => v25 = .bool false ∧ Below w.heap.size w wx)
      case first =>
        go_region_held3 (fun w' => w'.cell? ⟨b, off + i, none⟩ = some (.float .f32 x) ∧ w'.cell? ⟨d, doff + i, none⟩ = some (.float .f32 x)) (first | assumption | (refine ⟨?_, ?_⟩ <;> assumption)) (first | (go_at_call 21; ((with_reducible refine (HS.out _).mono ?_); rintro e w' ⟨rfl, rfl⟩)))
        all_goals (go_wp2_with fail)
        all_goals go_meet
        all_goals (exact ⟨rfl, HBEL.out.trans ((show Below wr.heap.size wr wr.drew by rw [World.drew_is_drewN]; exact below_drewN (Below.refl _ _) 1).mono (HBEL.out.size))⟩)
      case rest =>
        obtain ⟨rfl, hbx⟩ := hcut
        go_step
        go_wp2_with fail
        go_roundw
        case rel => exact ⟨i + 1, by omega, by go_num, hbx⟩
        case measure => simp [intOf]; omega
    · obtain rfl : i = xs.length := by omega
      go_wp2_with fail
      go_ret
      exact ⟨rfl, hbel⟩
end Go.Proofs.YtfnhddaofllniaaGreat

/- How much a polynomial misses 0 at a number, of the program. Conditions: a polynomial with roots whose value is told; lengths fit float32. -/
namespace Go.Proofs.YtfnhddaofllniaaGreat
set_option linter.unusedSimpArgs false
set_option linter.unusedVariables false
open Go Go.RowKit

set_option maxRecDepth 100000 in
set_option maxHeartbeats 1000000 in
theorem missAt_impl (v : Value) (rs : List C2) (z V : C2) (w : World) (hv : RdV w v (cx rs)) (h1 : 1 ≤ rs.length) (h2 : rs.length ≤ 17) (HM : RowKit.Hid (MsOk (rs.map nc) (nc z) V)) :
    Calls Tryz.prog 67 #[.agg #[v], .complex .f32 z.1 z.2] w (RetFB (missG (longF V) (missS (rs.map nc) (nc z) rs.length)) w) := by
  have n0 := nrm0
  rcases hv.openC with ⟨rfl, _⟩ | ⟨b, off, cap, rfl, hb, hcp, hc⟩
  · simp at h1
  have Hc := Lib.hid (show ∀ i, i < rs.length → w.cell? ⟨b, off + i, none⟩ = some (.complex .f32 (rs.getD i (0, 0)).1 (rs.getD i (0, 0)).2) from fun i hi => by
    rw [hc i hi]; simp [List.getD, hi])
  have Hv := Lib.hid hv
  have HR := Lib.hid HM.out.r
  have Hf := Lib.hid (show ∀ k, k < rs.length → fit1 (sqF (powerF (nc (rs.getD k (0, 0))))) from fun k hk => by
    have := HM.out.f k (by rw [List.length_map]; exact hk)
    rwa [getD_nc] at this)
  have HS := Lib.hid (fun k => show missS (rs.map nc) (nc z) (k + 1) = fop .add .f32 (missS (rs.map nc) (nc z) k) (powL (longF (nc (rs.getD k (0, 0)))) (longF (nc z)) k) by rw [missS, getD_nc])
  have HS0 := Lib.hid (show missS (rs.map nc) (nc z) 0 = nrm .f32 0 from rfl)
  have HV := Lib.hid HM.out.v
  have HN := Lib.hid HM.out.s
  have HZ := Lib.hid HM.out.z
  have HW := Lib.hid HM.out.w
  clear hc hv hcp HM
  go_enter Tryz.func67, Tryz.ntmps67
  go_wp2_with (first | (go_at_call 27; go_must (refine (rooted_impl _ rs _ (Hv.out.alloc _) h1 h2).mono ?_); rintro e w' ⟨rfl, hb1⟩; obtain ⟨chhb1, fhhb1⟩ := bcell hb1; have zhhb1 := hb1.size; (try simp only [World.size_alloc, World.size_setCell, World.size_drew] at zhhb1); (try have lhhb1 : w.heap.size < w'.heap.size := by omega); rw [HR.out]))
  (go_at_call 11; ((with_reducible refine (polyAt_impl _ rs z _ (Hv.out.below (by (repeat' (first | (with_reducible exact Below.refl _ _) | (with_reducible assumption) | (with_reducible refine Below.alloc ?_ ?_ _) | (with_reducible refine Below.setCell ?_ ?_ _) | (with_reducible refine Below.drew ?_) | (with_reducible refine Below.via (by assumption) ?_ ?_) | go_size)))) h1 h2 (Lib.hid fun _ _ => HN.out)).mono ?_); rintro e w' ⟨a1, a2, rfl, ha1, ha2, hb2⟩; obtain ⟨chhb2, fhhb2⟩ := bcell hb2; have zhhb2 := hb2.size; (try simp only [World.size_alloc, World.size_setCell, World.size_drew] at zhhb2); (try have lhhb2 : w.heap.size < w'.heap.size := by omega)))
  rw [HV.out] at ha1 ha2 ⊢
  have HA := Lib.hid (show nc (a1, a2) = V from Prod.ext ha1 ha2)
  have Hb2 := Lib.hid (show Below w.heap.size w w' from by (repeat' (first | (with_reducible exact Below.refl _ _) | (with_reducible assumption) | (with_reducible refine Below.alloc ?_ ?_ _) | (with_reducible refine Below.setCell ?_ ?_ _) | (with_reducible refine below_drewN ?_ _) | (with_reducible refine Below.via (by assumption) ?_ ?_) | go_size)))
  clear ha1 ha2 hb2
  go_wp2_with fail
  generalize hMS : missS (rs.map nc) (nc z) = MS at *
  clear hMS
  go_loopw [8, 26] (fun ov iv wr => ∃ (k r : Nat), k ≤ rs.length ∧ iv = .int .i64 k ∧ ov = .float .f32 r ∧ nrm .f32 r = MS k ∧ Below w.heap.size w wr) (fun _ iv _ => rs.length - (intOf iv).toNat)
  case atStart => exact ⟨0, _, Nat.zero_le _, rfl, rfl, HS0.out.symm, Hb2.out⟩
  case round =>
    obtain ⟨k, r, hk, rfl, rfl, hr, hbel⟩ := hrel
    have hsz := hbel.size
    have Hr := Lib.hid hr
    have Hbel := Lib.hid hbel
    by_cases hlt : k < rs.length
    · have c1 := (hbel.cell (p := ⟨b, off + k, none⟩) hb).trans (Hc.out k hlt)
      have Hff := Lib.hid (Hf.out k hlt)
      have HSk := Lib.hid (HS.out k)
      have j0 : (0 : Int) ≤ (k : Int) := by omega
      have j1 : (k : Int) < (rs.length : Int) := by omega
      generalize rs.getD k (0, 0) = x at *
      obtain ⟨x1, x2⟩ := x
      clear hr hbel
      go_wp2_with fail
      (go_at_call 47; ((with_reducible refine (long_impl (x1, x2) (Lib.hid Hff.out) _).mono ?_); rintro e w' ⟨a, m0, rfl, ha, rfl⟩))
      have Ha := Lib.hid ha
      clear ha
      go_wp2_with fail
      go_loopw [11, 34] (fun pv jv wi => ∃ (j p m : Nat), j ≤ k ∧ jv = .int .i64 j ∧ pv = .float .f32 p ∧ nrm .f32 p = powL (longF (nc (x1, x2))) (longF (nc z)) j ∧ wi = wr.drewN m) (fun _ jv _ => k - (intOf jv).toNat)
      case atStart => exact ⟨0, a, m0, Nat.zero_le _, rfl, rfl, Ha.out, rfl⟩
      case round =>
        obtain ⟨j, p, m, hj, rfl, rfl, hp, rfl⟩ := hrel
        have Hp := Lib.hid hp
        clear hp
        by_cases hjl : j < k
        · have j2 : (j : Int) < (k : Int) := by omega
          have j3 : (0 : Int) ≤ (j : Int) := by omega
          go_wp2_with fail
          (go_at_call 47; ((with_reducible refine (long_impl z (Lib.hid HZ.out) _).mono ?_); rintro e w' ⟨a2, m2, rfl, ha2, rfl⟩))
          have Ha2 := Lib.hid ha2
          clear ha2
          go_wp2_with (with_reducible refine wpList_fop rfl _ _ _ _ _ rfl rfl .f32 _ _ rfl rfl ?_; intro r3 m3 hr3; have Hr3 := Lib.hid hr3; clear hr3)
          go_roundw
          case rel => exact ⟨j + 1, r3, _, by omega, by go_num, rfl, by rw [Hr3.out, powL, ← Hp.out, Ha2.out], by first | rfl | (simp; rfl) | (simp; done)⟩
          case measure => simp [intOf]; omega
        · obtain rfl : j = k := by omega
          go_wp2_with (with_reducible refine wpList_fop rfl _ _ _ _ _ rfl rfl .f32 _ _ rfl rfl ?_; intro r3 m3 hr3; have Hr3 := Lib.hid hr3; clear hr3)
          go_roundw
          case rel => exact ⟨j + 1, r3, by omega, by go_num, rfl, by rw [Hr3.out, HSk.out, ← Hr.out, ← Hp.out], by first | exact below_drewN Hbel.out _ | exact below_drewN (below_drewN Hbel.out _) _⟩
          case measure => simp [intOf]; omega
    · obtain rfl : k = rs.length := by omega
      generalize hS : MS rs.length = S at *
      clear hr hbel hlt
      cases hfin : finF S
      · have HG := Lib.hid (show missG (longF V) S = (0, false) by simp [missG, aboveF, hfin])
        go_wp2_with (go_at_call 51; go_must (refine (isFinite_impl r _).mono ?_); rintro e w' ⟨m, rfl, rfl⟩; rw [Hr.out])
        go_ret2
        rw [HG.out]
        exact ⟨_, rfl, n0, by exact below_drewN Hbel.out _⟩
      · have hlg := leq_gtr hfin
        cases hgt : fcmp .gtr .f32 S (nrm .f32 0)
        · have HG := Lib.hid (show missG (longF V) S = (0, false) by simp [missG, aboveF, hgt])
          have hle : fcmp .leq .f32 (nrm .f32 r) (nrm .f32 0) = true := by rw [Hr.out, hlg, hgt]; rfl
          rw [nrm0] at hle
          clear hlg hgt
          go_wp2_with (go_at_call 51; go_must (refine (isFinite_impl r _).mono ?_); rintro e w' ⟨m, rfl, rfl⟩; rw [Hr.out])
          go_ret2
          rw [HG.out]
          exact ⟨_, rfl, n0, by exact below_drewN Hbel.out _⟩
        · have HG := Lib.hid (show missG (longF V) S = finiteN (fop .quo .f32 (longF V) S) by simp [missG, aboveF, hfin, hgt])
          have hle : fcmp .leq .f32 (nrm .f32 r) (nrm .f32 0) = false := by rw [Hr.out, hlg, hgt]; rfl
          rw [nrm0] at hle
          clear hlg hgt
          go_wp2_with (go_at_call 51; go_must (refine (isFinite_impl r _).mono ?_); rintro e w' ⟨m, rfl, rfl⟩; rw [Hr.out])
          go_wp2_with fail
          (go_at_call 47; ((with_reducible refine (long_impl (a1, a2) (Lib.hid (by rw [HA.out]; exact HW.out)) _).mono ?_); rintro e w' ⟨a, m0, rfl, ha, rfl⟩))
          have Ha := Lib.hid ha
          clear ha
          go_wp2_with (with_reducible refine wpList_fop rfl _ _ _ _ _ rfl rfl .f32 _ _ rfl rfl ?_; intro r3 m3 hr3; have Hr3 := Lib.hid hr3; clear hr3)
          (go_at_call 102; ((with_reducible refine (checked_impl r3 _).mono ?_)))
          have He : nrm .f32 r3 = fop .quo .f32 (longF V) S := by rw [Hr3.out, Ha.out, HA.out, Hr.out]
          rw [He]
          rintro e w' ⟨a5, rfl, ha5, hb5⟩
          have Ha5 := Lib.hid ha5
          have Hb5 := Lib.hid hb5
          generalize finiteN (fop .quo .f32 (longF V) S) = G at *
          clear ha5 hb5 He
          go_wp2_with fail
          go_ret2
          rw [HG.out]
          exact ⟨_, rfl, Ha5.out, (below_drewN Hbel.out _).trans (Hb5.out.mono (by simpa using hsz))⟩
end Go.Proofs.YtfnhddaofllniaaGreat
