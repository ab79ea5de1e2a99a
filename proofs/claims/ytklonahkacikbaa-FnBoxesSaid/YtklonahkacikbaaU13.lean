/- The angle of a point in turns, of the reference, as a pure function. Conditions: finite numbers. -/
import Derived.Test.YtklonahkacikbaaU12
namespace Go.Proofs.Ytklonahkacikbaa
open Go Go.RowKit
set_option linter.unusedSimpArgs false
set_option linter.unusedVariables false

def RetW (F : Nat) (w : World) (e : Ending) (w' : World) : Prop := ∃ r m, e = .returned (.float .f64 r) ∧ nrm .f64 r = F ∧ w' = w.drewN m

set_option maxRecDepth 100000 in
set_option maxHeartbeats 3200000 in
theorem angS_low (y x : Nat) (w : World) (ly : y < 18446744073709551616) (lx : x < 18446744073709551616) (fy : fN .f64 y = true) (fx : fN .f64 x = true)
    (hx0 : fcmp .eql .f64 x 0 = false) (hA : AngA (absW y) (absW x)) (hg : fcmp .gtr .f64 (absW y) (absW x) = false) :
    Calls Try.prog 101 #[.float .f64 y, .float .f64 x] w (RetW (angW y x) w) := by
  have n64 := nrm64_0
  have ey : nrm .f64 y = y := fN_nrm fy
  have ex : nrm .f64 x = x := fN_nrm fx
  have sy := self_sub fy
  have sx := self_sub fx
  have na : nrm .f64 (absW y) = absW y := fN_nrm hA.fa
  have nb : nrm .f64 (absW x) = absW x := fN_nrm hA.fb
  have Hg := Lib.hid hg
  have HA := Lib.hid hA
  have HAy := Lib.hid (fun w1 => abs_impl y w1 ly)
  have HAx := Lib.hid (fun w1 => abs_impl x w1 lx)
  have HBX := Lib.hid True.intro
  have T0E := Lib.hid (show angT (absW y) (absW x) = fop .quo .f64 (absW y) (absW x) by unfold angT; rw [hg]; rfl)
  have FIT0 := Lib.hid (fun (b1 b2 : Bool) (q : Nat) (h : nrm .f64 q = angX b1 (angG false (angM (tI (angT (absW y) (absW x)) 3)))) => ang_last HA.out false b1 b2 q h)
  have EF := Lib.hid (show angW y x = angN (fcmp .lss .f64 y 0) (angX (fcmp .lss .f64 x 0) (angG false (angM (tI (angT (absW y) (absW x)) 3)))) from by
    unfold angW; rw [Hg.out])
  clear Hg HA hA fy fx ly lx
  generalize angT (absW y) (absW x) = T0 at *
  generalize absW y = aa at *
  generalize absW x = bb at *
  go_enter Try.func101, Try.ntmps101
  go_wp2_with (first | (with_reducible refine wpList_fop rfl _ _ _ _ _ rfl rfl .f64 _ _ rfl rfl ?_; intro r m hr) | (with_reducible refine wpList_fopg _ _ _ _ _ rfl rfl .f64 _ _ rfl rfl (by with_unfolding_all rfl) ?_; intro r m hr))
  refine (HAy.out _).mono ?_
  rintro e w' ⟨rfl, rfl⟩
  go_wp2_with fail
  refine (HAx.out _).mono ?_
  rintro e w' ⟨rfl, rfl⟩
  clear hr
  go_wp2_with (first | (with_reducible refine wpList_fop rfl _ _ _ _ _ rfl rfl .f64 _ _ rfl rfl ?_; intro r m hr) | (with_reducible refine wpList_fopg _ _ _ _ _ rfl rfl .f64 _ _ rfl rfl (by with_unfolding_all rfl) ?_; intro r m hr))
  have T1 := Lib.hid (show nrm .f64 r = T0 from by rw [hr, na, nb, T0E.out])
  clear hr T0E
  go_loopw [8, 9] (fun tv iv wr => ∃ (t j k : Nat), tv = .float .f64 t ∧ iv = .int .i64 j ∧ j ≤ 3 ∧ nrm .f64 t = tI T0 j ∧ wr = w.drewN k) (fun _ iv _ => 3 - (intOf iv).toNat)
  case atStart => exact ⟨r, 0, _, rfl, rfl, by omega, T1.out, by first | rfl | (simp; rfl)⟩
  case round =>
    obtain ⟨t, j, k, rfl, rfl, hj, ht, rfl⟩ := hrel
    by_cases hlt : j < 3
    · have j1 : (j : Int) < 3 := by omega
      go_wp2_with (first | (first | (with_reducible refine wpList_fop rfl _ _ _ _ _ rfl rfl .f64 _ _ rfl rfl ?_; intro r m hr) | (with_reducible refine wpList_fopg _ _ _ _ _ rfl rfl .f64 _ _ rfl rfl (by with_unfolding_all rfl) ?_; intro r m hr)) | (go_at_call 78; refine (sqrt_lib _ _).mono ?_; rintro e w' ⟨sv, ms, rfl, hsv, rfl⟩))
      go_roundw
      case rel => exact ⟨r, j + 1, _, rfl, by go_num, by omega, (by unfold tI tS; simp only [*]), by first | rfl | (simp; rfl)⟩
      case measure => simp [intOf]; omega
    · obtain rfl : j = 3 := by omega
      have Ht := Lib.hid ht
      clear ht
      go_wp2_with (first | (with_reducible refine wpList_fop rfl _ _ _ _ _ rfl rfl .f64 _ _ rfl rfl ?_; intro r m hr) | (with_reducible refine wpList_fopg _ _ _ _ _ rfl rfl .f64 _ _ rfl rfl (by with_unfolding_all rfl) ?_; intro r m hr))
      have HU2 := Lib.hid (show nrm .f64 r = fop .mul .f64 (tI T0 3) (tI T0 3) from by rw [hr, Ht.out])
      clear hr
      go_loopg [11, 12] 8 (fun g pv kv wr => kv = .int .i64 (2 * (g : Int) - 1) ∧ g ≤ 8 ∧ ∃ p m, pv = .float .f64 p ∧ nrm .f64 p = angP (fop .mul .f64 (tI T0 3) (tI T0 3)) (8 - g) ∧ wr = w.drewN m)
      case atStart => exact ⟨rfl, by omega, _, _, rfl, rfl, by first | rfl | (simp; rfl)⟩
      case round =>
        obtain ⟨rfl, hj, p, m, rfl, hp, rfl⟩ := hrel
        by_cases hlt : 0 < gk
        · obtain ⟨c, rfl⟩ : ∃ c, gk = c + 1 := ⟨gk - 1, by omega⟩
          have e1 : 2 * ((c + 1 : Nat) : Int) - 1 = 2 * (c : Int) + 1 := by omega
          rw [e1]
          have j1 : (1 : Int) ≤ 2 * (c : Int) + 1 := by omega
          have Hk := Lib.hid (show nrm .f64 (floatOfInt .f64 (2 * (c : Int) + 1)) = kA (7 - c) from by unfold kA; congr 2; omega)
          have q1 : IntKind.i64.wrap (2 * (c : Int) + 1 - 2) = 2 * (c : Int) - 1 := by rw [show 2 * (c : Int) + 1 - 2 = 2 * (c : Int) - 1 by omega]; exact IntWalk.i64_in _ ⟨by omega, by omega⟩
          have hu2 := HU2.out
          have Hp8 := Lib.hid (show 8 - c = (7 - c) + 1 ∧ 8 - (c + 1) = 7 - c by omega)
          rw [Hp8.out.2] at hp
          go_wp2_with (first | (with_reducible refine wpList_fop rfl _ _ _ _ _ rfl rfl .f64 _ _ rfl rfl ?_; intro r m hr) | (with_reducible refine wpList_fopg _ _ _ _ _ rfl rfl .f64 _ _ rfl rfl (by with_unfolding_all rfl) ?_; intro r m hr))
          go_roundg c
          case measure => omega
          case rel =>
            refine ⟨by first | rfl | go_num, by omega, _, _, rfl, ?_, by first | rfl | (simp only [World.drewN_drewN]; rfl)⟩
            have hkk := Hk.out
            rw [Hp8.out.1]
            unfold angP
            rw [← hkk]
            simp only [*]
        · obtain rfl : gk = 0 := by omega
          have hp2 : nrm .f64 p = angP (fop .mul .f64 (tI T0 3) (tI T0 3)) 8 := hp
          have ht := Ht.out
          clear hp
          have hp := hp2
          clear hp2
          cases hbx : fcmp .lss .f64 x 0
          · -- bx 0
            have HQ := Lib.hid (fun (q1 q2 q3 : Nat) (e1 : nrm .f64 q1 = fop .mul .f64 (nrm .f64 t) (nrm .f64 p)) (e2 : nrm .f64 q2 = fop .mul .f64 (nrm .f64 4620693217682128896) (nrm .f64 q1)) (e3 : nrm .f64 q3 = fop .quo .f64 (nrm .f64 q2) (nrm .f64 4618760256179416344)) => show nrm .f64 q3 = angX false (angG false (angM (tI T0 3))) from by
              unfold angX angG angM; simp only [reduceIte, Bool.false_eq_true]; rw [e3, e2, e1, ht, hp])
            cases hneg : fcmp .lss .f64 y 0
            · have RES := Lib.hid (fun (q : Nat) (h : nrm .f64 q = angX false (angG false (angM (tI T0 3)))) => show nrm .f64 (q) = angW y x from by
                rw [show nrm .f64 (q) = _ from (FIT0.out false false q h).2, EF.out, hneg, hbx])
              clear ht hp
              go_wp2_with (first | (with_reducible refine wpList_fop rfl _ _ _ _ _ rfl rfl .f64 _ _ rfl rfl ?_; intro r m hr; (first | (have _u := hq2; have hq3 := hr) | (have _u := hq1; have hq2 := hr) | (have hq1 := hr))) | (with_reducible refine wpList_fopg _ _ _ _ _ rfl rfl .f64 _ _ rfl rfl (by with_unfolding_all rfl) ?_; intro r m hr; (first | (have _u := hq2; have hq3 := hr) | (have _u := hq1; have hq2 := hr) | (have hq1 := hr))))
              go_ret
              exact ⟨_, _, rfl, RES.out _ (HQ.out _ _ _ hq1 hq2 hq3), by first | rfl | (simp only [World.drewN_drewN]; rfl)⟩
            · have RES := Lib.hid (fun (q : Nat) (h : nrm .f64 q = angX false (angG false (angM (tI T0 3)))) => show nrm .f64 (Op.negFloat .f64 q) = angW y x from by
                rw [show nrm .f64 (Op.negFloat .f64 q) = _ from (FIT0.out false true q h).2, EF.out, hneg, hbx])
              clear ht hp
              go_wp2_with (first | (with_reducible refine wpList_fop rfl _ _ _ _ _ rfl rfl .f64 _ _ rfl rfl ?_; intro r m hr; (first | (have _u := hq2; have hq3 := hr) | (have _u := hq1; have hq2 := hr) | (have hq1 := hr))) | (with_reducible refine wpList_fopg _ _ _ _ _ rfl rfl .f64 _ _ rfl rfl (by with_unfolding_all rfl) ?_; intro r m hr; (first | (have _u := hq2; have hq3 := hr) | (have _u := hq1; have hq2 := hr) | (have hq1 := hr))))
              go_ret
              exact ⟨_, _, rfl, RES.out _ (HQ.out _ _ _ hq1 hq2 hq3), by first | rfl | (simp only [World.drewN_drewN]; rfl)⟩
          · -- bx 1
            have HQ := Lib.hid (fun (q1 q2 q3 q4 : Nat) (e1 : nrm .f64 q1 = fop .mul .f64 (nrm .f64 t) (nrm .f64 p)) (e2 : nrm .f64 q2 = fop .mul .f64 (nrm .f64 4620693217682128896) (nrm .f64 q1)) (e3 : nrm .f64 q3 = fop .quo .f64 (nrm .f64 q2) (nrm .f64 4618760256179416344)) (e4 : nrm .f64 q4 = fop .sub .f64 (nrm .f64 4602678819172646912) (nrm .f64 q3)) => show nrm .f64 q4 = angX true (angG false (angM (tI T0 3))) from by
              unfold angX angG angM; simp only [reduceIte, Bool.false_eq_true]; rw [e4, e3, e2, e1, ht, hp])
            cases hneg : fcmp .lss .f64 y 0
            · have RES := Lib.hid (fun (q : Nat) (h : nrm .f64 q = angX true (angG false (angM (tI T0 3)))) => show nrm .f64 (q) = angW y x from by
                rw [show nrm .f64 (q) = _ from (FIT0.out true false q h).2, EF.out, hneg, hbx])
              clear ht hp
              go_wp2_with (first | (with_reducible refine wpList_fop rfl _ _ _ _ _ rfl rfl .f64 _ _ rfl rfl ?_; intro r m hr; (first | (have _u := hq3; have hq4 := hr) | (have _u := hq2; have hq3 := hr) | (have _u := hq1; have hq2 := hr) | (have hq1 := hr))) | (with_reducible refine wpList_fopg _ _ _ _ _ rfl rfl .f64 _ _ rfl rfl (by with_unfolding_all rfl) ?_; intro r m hr; (first | (have _u := hq3; have hq4 := hr) | (have _u := hq2; have hq3 := hr) | (have _u := hq1; have hq2 := hr) | (have hq1 := hr))))
              go_ret
              exact ⟨_, _, rfl, RES.out _ (HQ.out _ _ _ _ hq1 hq2 hq3 hq4), by first | rfl | (simp only [World.drewN_drewN]; rfl)⟩
            · have RES := Lib.hid (fun (q : Nat) (h : nrm .f64 q = angX true (angG false (angM (tI T0 3)))) => show nrm .f64 (Op.negFloat .f64 q) = angW y x from by
                rw [show nrm .f64 (Op.negFloat .f64 q) = _ from (FIT0.out true true q h).2, EF.out, hneg, hbx])
              clear ht hp
              go_wp2_with (first | (with_reducible refine wpList_fop rfl _ _ _ _ _ rfl rfl .f64 _ _ rfl rfl ?_; intro r m hr; (first | (have _u := hq3; have hq4 := hr) | (have _u := hq2; have hq3 := hr) | (have _u := hq1; have hq2 := hr) | (have hq1 := hr))) | (with_reducible refine wpList_fopg _ _ _ _ _ rfl rfl .f64 _ _ rfl rfl (by with_unfolding_all rfl) ?_; intro r m hr; (first | (have _u := hq3; have hq4 := hr) | (have _u := hq2; have hq3 := hr) | (have _u := hq1; have hq2 := hr) | (have hq1 := hr))))
              go_ret
              exact ⟨_, _, rfl, RES.out _ (HQ.out _ _ _ _ hq1 hq2 hq3 hq4), by first | rfl | (simp only [World.drewN_drewN]; rfl)⟩

set_option maxRecDepth 100000 in
set_option maxHeartbeats 3200000 in
theorem angS_high (y x : Nat) (w : World) (ly : y < 18446744073709551616) (lx : x < 18446744073709551616) (fy : fN .f64 y = true) (fx : fN .f64 x = true)
    (hx0 : fcmp .eql .f64 x 0 = false) (hA : AngA (absW y) (absW x)) (hg : fcmp .gtr .f64 (absW y) (absW x) = true) :
    Calls Try.prog 101 #[.float .f64 y, .float .f64 x] w (RetW (angW y x) w) := by
  have n64 := nrm64_0
  have ey : nrm .f64 y = y := fN_nrm fy
  have ex : nrm .f64 x = x := fN_nrm fx
  have sy := self_sub fy
  have sx := self_sub fx
  have na : nrm .f64 (absW y) = absW y := fN_nrm hA.fa
  have nb : nrm .f64 (absW x) = absW x := fN_nrm hA.fb
  have Hg := Lib.hid hg
  have HA := Lib.hid hA
  have HAy := Lib.hid (fun w1 => abs_impl y w1 ly)
  have HAx := Lib.hid (fun w1 => abs_impl x w1 lx)
  have HBX := Lib.hid True.intro
  have T0E := Lib.hid (show angT (absW y) (absW x) = fop .quo .f64 (absW x) (absW y) by unfold angT; rw [hg]; rfl)
  have FIT0 := Lib.hid (fun (b1 b2 : Bool) (q : Nat) (h : nrm .f64 q = angX b1 (angG true (angM (tI (angT (absW y) (absW x)) 3)))) => ang_last HA.out true b1 b2 q h)
  have EF := Lib.hid (show angW y x = angN (fcmp .lss .f64 y 0) (angX (fcmp .lss .f64 x 0) (angG true (angM (tI (angT (absW y) (absW x)) 3)))) from by
    unfold angW; rw [Hg.out])
  clear Hg HA hA fy fx ly lx
  generalize angT (absW y) (absW x) = T0 at *
  generalize absW y = aa at *
  generalize absW x = bb at *
  go_enter Try.func101, Try.ntmps101
  go_wp2_with (first | (with_reducible refine wpList_fop rfl _ _ _ _ _ rfl rfl .f64 _ _ rfl rfl ?_; intro r m hr) | (with_reducible refine wpList_fopg _ _ _ _ _ rfl rfl .f64 _ _ rfl rfl (by with_unfolding_all rfl) ?_; intro r m hr))
  refine (HAy.out _).mono ?_
  rintro e w' ⟨rfl, rfl⟩
  go_wp2_with fail
  refine (HAx.out _).mono ?_
  rintro e w' ⟨rfl, rfl⟩
  clear hr
  go_wp2_with (first | (with_reducible refine wpList_fop rfl _ _ _ _ _ rfl rfl .f64 _ _ rfl rfl ?_; intro r m hr) | (with_reducible refine wpList_fopg _ _ _ _ _ rfl rfl .f64 _ _ rfl rfl (by with_unfolding_all rfl) ?_; intro r m hr))
  have T1 := Lib.hid (show nrm .f64 r = T0 from by rw [hr, na, nb, T0E.out])
  clear hr T0E
  go_loopw [8, 9] (fun tv iv wr => ∃ (t j k : Nat), tv = .float .f64 t ∧ iv = .int .i64 j ∧ j ≤ 3 ∧ nrm .f64 t = tI T0 j ∧ wr = w.drewN k) (fun _ iv _ => 3 - (intOf iv).toNat)
  case atStart => exact ⟨r, 0, _, rfl, rfl, by omega, T1.out, by first | rfl | (simp; rfl)⟩
  case round =>
    obtain ⟨t, j, k, rfl, rfl, hj, ht, rfl⟩ := hrel
    by_cases hlt : j < 3
    · have j1 : (j : Int) < 3 := by omega
      go_wp2_with (first | (first | (with_reducible refine wpList_fop rfl _ _ _ _ _ rfl rfl .f64 _ _ rfl rfl ?_; intro r m hr) | (with_reducible refine wpList_fopg _ _ _ _ _ rfl rfl .f64 _ _ rfl rfl (by with_unfolding_all rfl) ?_; intro r m hr)) | (go_at_call 78; refine (sqrt_lib _ _).mono ?_; rintro e w' ⟨sv, ms, rfl, hsv, rfl⟩))
      go_roundw
      case rel => exact ⟨r, j + 1, _, rfl, by go_num, by omega, (by unfold tI tS; simp only [*]), by first | rfl | (simp; rfl)⟩
      case measure => simp [intOf]; omega
    · obtain rfl : j = 3 := by omega
      have Ht := Lib.hid ht
      clear ht
      go_wp2_with (first | (with_reducible refine wpList_fop rfl _ _ _ _ _ rfl rfl .f64 _ _ rfl rfl ?_; intro r m hr) | (with_reducible refine wpList_fopg _ _ _ _ _ rfl rfl .f64 _ _ rfl rfl (by with_unfolding_all rfl) ?_; intro r m hr))
      have HU2 := Lib.hid (show nrm .f64 r = fop .mul .f64 (tI T0 3) (tI T0 3) from by rw [hr, Ht.out])
      clear hr
      go_loopg [11, 12] 8 (fun g pv kv wr => kv = .int .i64 (2 * (g : Int) - 1) ∧ g ≤ 8 ∧ ∃ p m, pv = .float .f64 p ∧ nrm .f64 p = angP (fop .mul .f64 (tI T0 3) (tI T0 3)) (8 - g) ∧ wr = w.drewN m)
      case atStart => exact ⟨rfl, by omega, _, _, rfl, rfl, by first | rfl | (simp; rfl)⟩
      case round =>
        obtain ⟨rfl, hj, p, m, rfl, hp, rfl⟩ := hrel
        by_cases hlt : 0 < gk
        · obtain ⟨c, rfl⟩ : ∃ c, gk = c + 1 := ⟨gk - 1, by omega⟩
          have e1 : 2 * ((c + 1 : Nat) : Int) - 1 = 2 * (c : Int) + 1 := by omega
          rw [e1]
          have j1 : (1 : Int) ≤ 2 * (c : Int) + 1 := by omega
          have Hk := Lib.hid (show nrm .f64 (floatOfInt .f64 (2 * (c : Int) + 1)) = kA (7 - c) from by unfold kA; congr 2; omega)
          have q1 : IntKind.i64.wrap (2 * (c : Int) + 1 - 2) = 2 * (c : Int) - 1 := by rw [show 2 * (c : Int) + 1 - 2 = 2 * (c : Int) - 1 by omega]; exact IntWalk.i64_in _ ⟨by omega, by omega⟩
          have hu2 := HU2.out
          have Hp8 := Lib.hid (show 8 - c = (7 - c) + 1 ∧ 8 - (c + 1) = 7 - c by omega)
          rw [Hp8.out.2] at hp
          go_wp2_with (first | (with_reducible refine wpList_fop rfl _ _ _ _ _ rfl rfl .f64 _ _ rfl rfl ?_; intro r m hr) | (with_reducible refine wpList_fopg _ _ _ _ _ rfl rfl .f64 _ _ rfl rfl (by with_unfolding_all rfl) ?_; intro r m hr))
          go_roundg c
          case measure => omega
          case rel =>
            refine ⟨by first | rfl | go_num, by omega, _, _, rfl, ?_, by first | rfl | (simp only [World.drewN_drewN]; rfl)⟩
            have hkk := Hk.out
            rw [Hp8.out.1]
            unfold angP
            rw [← hkk]
            simp only [*]
        · obtain rfl : gk = 0 := by omega
          have hp2 : nrm .f64 p = angP (fop .mul .f64 (tI T0 3) (tI T0 3)) 8 := hp
          have ht := Ht.out
          clear hp
          have hp := hp2
          clear hp2
          cases hbx : fcmp .lss .f64 x 0
          · -- bx 0
            have HQ := Lib.hid (fun (q1 q2 q3 q4 : Nat) (e1 : nrm .f64 q1 = fop .mul .f64 (nrm .f64 t) (nrm .f64 p)) (e2 : nrm .f64 q2 = fop .mul .f64 (nrm .f64 4620693217682128896) (nrm .f64 q1)) (e3 : nrm .f64 q3 = fop .quo .f64 (nrm .f64 q2) (nrm .f64 4618760256179416344)) (e4 : nrm .f64 q4 = fop .sub .f64 (nrm .f64 4598175219545276416) (nrm .f64 q3)) => show nrm .f64 q4 = angX false (angG true (angM (tI T0 3))) from by
              unfold angX angG angM; simp only [reduceIte, Bool.false_eq_true]; rw [e4, e3, e2, e1, ht, hp])
            cases hneg : fcmp .lss .f64 y 0
            · have RES := Lib.hid (fun (q : Nat) (h : nrm .f64 q = angX false (angG true (angM (tI T0 3)))) => show nrm .f64 (q) = angW y x from by
                rw [show nrm .f64 (q) = _ from (FIT0.out false false q h).2, EF.out, hneg, hbx])
              clear ht hp
              go_wp2_with (first | (with_reducible refine wpList_fop rfl _ _ _ _ _ rfl rfl .f64 _ _ rfl rfl ?_; intro r m hr; (first | (have _u := hq3; have hq4 := hr) | (have _u := hq2; have hq3 := hr) | (have _u := hq1; have hq2 := hr) | (have hq1 := hr))) | (with_reducible refine wpList_fopg _ _ _ _ _ rfl rfl .f64 _ _ rfl rfl (by with_unfolding_all rfl) ?_; intro r m hr; (first | (have _u := hq3; have hq4 := hr) | (have _u := hq2; have hq3 := hr) | (have _u := hq1; have hq2 := hr) | (have hq1 := hr))))
              go_ret
              exact ⟨_, _, rfl, RES.out _ (HQ.out _ _ _ _ hq1 hq2 hq3 hq4), by first | rfl | (simp only [World.drewN_drewN]; rfl)⟩
            · have RES := Lib.hid (fun (q : Nat) (h : nrm .f64 q = angX false (angG true (angM (tI T0 3)))) => show nrm .f64 (Op.negFloat .f64 q) = angW y x from by
                rw [show nrm .f64 (Op.negFloat .f64 q) = _ from (FIT0.out false true q h).2, EF.out, hneg, hbx])
              clear ht hp
              go_wp2_with (first | (with_reducible refine wpList_fop rfl _ _ _ _ _ rfl rfl .f64 _ _ rfl rfl ?_; intro r m hr; (first | (have _u := hq3; have hq4 := hr) | (have _u := hq2; have hq3 := hr) | (have _u := hq1; have hq2 := hr) | (have hq1 := hr))) | (with_reducible refine wpList_fopg _ _ _ _ _ rfl rfl .f64 _ _ rfl rfl (by with_unfolding_all rfl) ?_; intro r m hr; (first | (have _u := hq3; have hq4 := hr) | (have _u := hq2; have hq3 := hr) | (have _u := hq1; have hq2 := hr) | (have hq1 := hr))))
              go_ret
              exact ⟨_, _, rfl, RES.out _ (HQ.out _ _ _ _ hq1 hq2 hq3 hq4), by first | rfl | (simp only [World.drewN_drewN]; rfl)⟩
          · -- bx 1
            have HQ := Lib.hid (fun (q1 q2 q3 q4 q5 : Nat) (e1 : nrm .f64 q1 = fop .mul .f64 (nrm .f64 t) (nrm .f64 p)) (e2 : nrm .f64 q2 = fop .mul .f64 (nrm .f64 4620693217682128896) (nrm .f64 q1)) (e3 : nrm .f64 q3 = fop .quo .f64 (nrm .f64 q2) (nrm .f64 4618760256179416344)) (e4 : nrm .f64 q4 = fop .sub .f64 (nrm .f64 4598175219545276416) (nrm .f64 q3)) (e5 : nrm .f64 q5 = fop .sub .f64 (nrm .f64 4602678819172646912) (nrm .f64 q4)) => show nrm .f64 q5 = angX true (angG true (angM (tI T0 3))) from by
              unfold angX angG angM; simp only [reduceIte, Bool.false_eq_true]; rw [e5, e4, e3, e2, e1, ht, hp])
            cases hneg : fcmp .lss .f64 y 0
            · have RES := Lib.hid (fun (q : Nat) (h : nrm .f64 q = angX true (angG true (angM (tI T0 3)))) => show nrm .f64 (q) = angW y x from by
                rw [show nrm .f64 (q) = _ from (FIT0.out true false q h).2, EF.out, hneg, hbx])
              clear ht hp
              go_wp2_with (first | (with_reducible refine wpList_fop rfl _ _ _ _ _ rfl rfl .f64 _ _ rfl rfl ?_; intro r m hr; (first | (have _u := hq4; have hq5 := hr) | (have _u := hq3; have hq4 := hr) | (have _u := hq2; have hq3 := hr) | (have _u := hq1; have hq2 := hr) | (have hq1 := hr))) | (with_reducible refine wpList_fopg _ _ _ _ _ rfl rfl .f64 _ _ rfl rfl (by with_unfolding_all rfl) ?_; intro r m hr; (first | (have _u := hq4; have hq5 := hr) | (have _u := hq3; have hq4 := hr) | (have _u := hq2; have hq3 := hr) | (have _u := hq1; have hq2 := hr) | (have hq1 := hr))))
              go_ret
              exact ⟨_, _, rfl, RES.out _ (HQ.out _ _ _ _ _ hq1 hq2 hq3 hq4 hq5), by first | rfl | (simp only [World.drewN_drewN]; rfl)⟩
            · have RES := Lib.hid (fun (q : Nat) (h : nrm .f64 q = angX true (angG true (angM (tI T0 3)))) => show nrm .f64 (Op.negFloat .f64 q) = angW y x from by
                rw [show nrm .f64 (Op.negFloat .f64 q) = _ from (FIT0.out true true q h).2, EF.out, hneg, hbx])
              clear ht hp
              go_wp2_with (first | (with_reducible refine wpList_fop rfl _ _ _ _ _ rfl rfl .f64 _ _ rfl rfl ?_; intro r m hr; (first | (have _u := hq4; have hq5 := hr) | (have _u := hq3; have hq4 := hr) | (have _u := hq2; have hq3 := hr) | (have _u := hq1; have hq2 := hr) | (have hq1 := hr))) | (with_reducible refine wpList_fopg _ _ _ _ _ rfl rfl .f64 _ _ rfl rfl (by with_unfolding_all rfl) ?_; intro r m hr; (first | (have _u := hq4; have hq5 := hr) | (have _u := hq3; have hq4 := hr) | (have _u := hq2; have hq3 := hr) | (have _u := hq1; have hq2 := hr) | (have hq1 := hr))))
              go_ret
              exact ⟨_, _, rfl, RES.out _ (HQ.out _ _ _ _ _ hq1 hq2 hq3 hq4 hq5), by first | rfl | (simp only [World.drewN_drewN]; rfl)⟩

set_option maxRecDepth 100000 in
set_option maxHeartbeats 3200000 in
theorem angS_up (y x : Nat) (w : World) (ly : y < 18446744073709551616) (lx : x < 18446744073709551616) (fy : fN .f64 y = true) (fx : fN .f64 x = true)
    (hx0 : fcmp .eql .f64 x 0 = true) (hy0 : fcmp .eql .f64 y 0 = false) (hbx0 : fcmp .lss .f64 x 0 = false) (hA : AngA (absW y) (absW x)) (hg : fcmp .gtr .f64 (absW y) (absW x) = true) :
    Calls Try.prog 101 #[.float .f64 y, .float .f64 x] w (RetW (angW y x) w) := by
  have n64 := nrm64_0
  have ey : nrm .f64 y = y := fN_nrm fy
  have ex : nrm .f64 x = x := fN_nrm fx
  have sy := self_sub fy
  have sx := self_sub fx
  have na : nrm .f64 (absW y) = absW y := fN_nrm hA.fa
  have nb : nrm .f64 (absW x) = absW x := fN_nrm hA.fb
  have Hg := Lib.hid hg
  have HA := Lib.hid hA
  have HAy := Lib.hid (fun w1 => abs_impl y w1 ly)
  have HAx := Lib.hid (fun w1 => abs_impl x w1 lx)
  have HBX := Lib.hid hbx0
  have T0E := Lib.hid (show angT (absW y) (absW x) = fop .quo .f64 (absW x) (absW y) by unfold angT; rw [hg]; rfl)
  have FIT0 := Lib.hid (fun (b1 b2 : Bool) (q : Nat) (h : nrm .f64 q = angX b1 (angG true (angM (tI (angT (absW y) (absW x)) 3)))) => ang_last HA.out true b1 b2 q h)
  have EF := Lib.hid (show angW y x = angN (fcmp .lss .f64 y 0) (angX (fcmp .lss .f64 x 0) (angG true (angM (tI (angT (absW y) (absW x)) 3)))) from by
    unfold angW; rw [Hg.out])
  clear Hg HA hA fy fx ly lx
  generalize angT (absW y) (absW x) = T0 at *
  generalize absW y = aa at *
  generalize absW x = bb at *
  go_enter Try.func101, Try.ntmps101
  go_wp2_with (first | (with_reducible refine wpList_fop rfl _ _ _ _ _ rfl rfl .f64 _ _ rfl rfl ?_; intro r m hr) | (with_reducible refine wpList_fopg _ _ _ _ _ rfl rfl .f64 _ _ rfl rfl (by with_unfolding_all rfl) ?_; intro r m hr))
  refine (HAy.out _).mono ?_
  rintro e w' ⟨rfl, rfl⟩
  go_wp2_with fail
  refine (HAx.out _).mono ?_
  rintro e w' ⟨rfl, rfl⟩
  clear hr
  go_wp2_with (first | (with_reducible refine wpList_fop rfl _ _ _ _ _ rfl rfl .f64 _ _ rfl rfl ?_; intro r m hr) | (with_reducible refine wpList_fopg _ _ _ _ _ rfl rfl .f64 _ _ rfl rfl (by with_unfolding_all rfl) ?_; intro r m hr))
  have T1 := Lib.hid (show nrm .f64 r = T0 from by rw [hr, na, nb, T0E.out])
  clear hr T0E
  go_loopw [8, 9] (fun tv iv wr => ∃ (t j k : Nat), tv = .float .f64 t ∧ iv = .int .i64 j ∧ j ≤ 3 ∧ nrm .f64 t = tI T0 j ∧ wr = w.drewN k) (fun _ iv _ => 3 - (intOf iv).toNat)
  case atStart => exact ⟨r, 0, _, rfl, rfl, by omega, T1.out, by first | rfl | (simp; rfl)⟩
  case round =>
    obtain ⟨t, j, k, rfl, rfl, hj, ht, rfl⟩ := hrel
    by_cases hlt : j < 3
    · have j1 : (j : Int) < 3 := by omega
      go_wp2_with (first | (first | (with_reducible refine wpList_fop rfl _ _ _ _ _ rfl rfl .f64 _ _ rfl rfl ?_; intro r m hr) | (with_reducible refine wpList_fopg _ _ _ _ _ rfl rfl .f64 _ _ rfl rfl (by with_unfolding_all rfl) ?_; intro r m hr)) | (go_at_call 78; refine (sqrt_lib _ _).mono ?_; rintro e w' ⟨sv, ms, rfl, hsv, rfl⟩))
      go_roundw
      case rel => exact ⟨r, j + 1, _, rfl, by go_num, by omega, (by unfold tI tS; simp only [*]), by first | rfl | (simp; rfl)⟩
      case measure => simp [intOf]; omega
    · obtain rfl : j = 3 := by omega
      have Ht := Lib.hid ht
      clear ht
      go_wp2_with (first | (with_reducible refine wpList_fop rfl _ _ _ _ _ rfl rfl .f64 _ _ rfl rfl ?_; intro r m hr) | (with_reducible refine wpList_fopg _ _ _ _ _ rfl rfl .f64 _ _ rfl rfl (by with_unfolding_all rfl) ?_; intro r m hr))
      have HU2 := Lib.hid (show nrm .f64 r = fop .mul .f64 (tI T0 3) (tI T0 3) from by rw [hr, Ht.out])
      clear hr
      go_loopg [11, 12] 8 (fun g pv kv wr => kv = .int .i64 (2 * (g : Int) - 1) ∧ g ≤ 8 ∧ ∃ p m, pv = .float .f64 p ∧ nrm .f64 p = angP (fop .mul .f64 (tI T0 3) (tI T0 3)) (8 - g) ∧ wr = w.drewN m)
      case atStart => exact ⟨rfl, by omega, _, _, rfl, rfl, by first | rfl | (simp; rfl)⟩
      case round =>
        obtain ⟨rfl, hj, p, m, rfl, hp, rfl⟩ := hrel
        by_cases hlt : 0 < gk
        · obtain ⟨c, rfl⟩ : ∃ c, gk = c + 1 := ⟨gk - 1, by omega⟩
          have e1 : 2 * ((c + 1 : Nat) : Int) - 1 = 2 * (c : Int) + 1 := by omega
          rw [e1]
          have j1 : (1 : Int) ≤ 2 * (c : Int) + 1 := by omega
          have Hk := Lib.hid (show nrm .f64 (floatOfInt .f64 (2 * (c : Int) + 1)) = kA (7 - c) from by unfold kA; congr 2; omega)
          have q1 : IntKind.i64.wrap (2 * (c : Int) + 1 - 2) = 2 * (c : Int) - 1 := by rw [show 2 * (c : Int) + 1 - 2 = 2 * (c : Int) - 1 by omega]; exact IntWalk.i64_in _ ⟨by omega, by omega⟩
          have hu2 := HU2.out
          have Hp8 := Lib.hid (show 8 - c = (7 - c) + 1 ∧ 8 - (c + 1) = 7 - c by omega)
          rw [Hp8.out.2] at hp
          go_wp2_with (first | (with_reducible refine wpList_fop rfl _ _ _ _ _ rfl rfl .f64 _ _ rfl rfl ?_; intro r m hr) | (with_reducible refine wpList_fopg _ _ _ _ _ rfl rfl .f64 _ _ rfl rfl (by with_unfolding_all rfl) ?_; intro r m hr))
          go_roundg c
          case measure => omega
          case rel =>
            refine ⟨by first | rfl | go_num, by omega, _, _, rfl, ?_, by first | rfl | (simp only [World.drewN_drewN]; rfl)⟩
            have hkk := Hk.out
            rw [Hp8.out.1]
            unfold angP
            rw [← hkk]
            simp only [*]
        · obtain rfl : gk = 0 := by omega
          have hp2 : nrm .f64 p = angP (fop .mul .f64 (tI T0 3) (tI T0 3)) 8 := hp
          have ht := Ht.out
          clear hp
          have hp := hp2
          clear hp2
          have HQ := Lib.hid (fun (q1 q2 q3 q4 : Nat) (e1 : nrm .f64 q1 = fop .mul .f64 (nrm .f64 t) (nrm .f64 p)) (e2 : nrm .f64 q2 = fop .mul .f64 (nrm .f64 4620693217682128896) (nrm .f64 q1)) (e3 : nrm .f64 q3 = fop .quo .f64 (nrm .f64 q2) (nrm .f64 4618760256179416344)) (e4 : nrm .f64 q4 = fop .sub .f64 (nrm .f64 4598175219545276416) (nrm .f64 q3)) => show nrm .f64 q4 = angX false (angG true (angM (tI T0 3))) from by
            unfold angX angG angM; simp only [reduceIte, Bool.false_eq_true]; rw [e4, e3, e2, e1, ht, hp])
          cases hneg : fcmp .lss .f64 y 0
          · have RES := Lib.hid (fun (q : Nat) (h : nrm .f64 q = angX false (angG true (angM (tI T0 3)))) => show nrm .f64 (q) = angW y x from by
              rw [show nrm .f64 (q) = _ from (FIT0.out false false q h).2, EF.out, hneg, HBX.out])
            clear ht hp
            go_wp2_with (first | (with_reducible refine wpList_fop rfl _ _ _ _ _ rfl rfl .f64 _ _ rfl rfl ?_; intro r m hr; (first | (have _u := hq3; have hq4 := hr) | (have _u := hq2; have hq3 := hr) | (have _u := hq1; have hq2 := hr) | (have hq1 := hr))) | (with_reducible refine wpList_fopg _ _ _ _ _ rfl rfl .f64 _ _ rfl rfl (by with_unfolding_all rfl) ?_; intro r m hr; (first | (have _u := hq3; have hq4 := hr) | (have _u := hq2; have hq3 := hr) | (have _u := hq1; have hq2 := hr) | (have hq1 := hr))))
            go_ret
            exact ⟨_, _, rfl, RES.out _ (HQ.out _ _ _ _ hq1 hq2 hq3 hq4), by first | rfl | (simp only [World.drewN_drewN]; rfl)⟩
          · have RES := Lib.hid (fun (q : Nat) (h : nrm .f64 q = angX false (angG true (angM (tI T0 3)))) => show nrm .f64 (Op.negFloat .f64 q) = angW y x from by
              rw [show nrm .f64 (Op.negFloat .f64 q) = _ from (FIT0.out false true q h).2, EF.out, hneg, HBX.out])
            clear ht hp
            go_wp2_with (first | (with_reducible refine wpList_fop rfl _ _ _ _ _ rfl rfl .f64 _ _ rfl rfl ?_; intro r m hr; (first | (have _u := hq3; have hq4 := hr) | (have _u := hq2; have hq3 := hr) | (have _u := hq1; have hq2 := hr) | (have hq1 := hr))) | (with_reducible refine wpList_fopg _ _ _ _ _ rfl rfl .f64 _ _ rfl rfl (by with_unfolding_all rfl) ?_; intro r m hr; (first | (have _u := hq3; have hq4 := hr) | (have _u := hq2; have hq3 := hr) | (have _u := hq1; have hq2 := hr) | (have hq1 := hr))))
            go_ret
            exact ⟨_, _, rfl, RES.out _ (HQ.out _ _ _ _ hq1 hq2 hq3 hq4), by first | rfl | (simp only [World.drewN_drewN]; rfl)⟩

set_option maxRecDepth 100000 in
set_option maxHeartbeats 800000 in
theorem angS_zero (y x : Nat) (w : World) (fy : fN .f64 y = true) (fx : fN .f64 x = true) (cx0 : fcmp .eql .f64 x 0 = true) (cy0 : fcmp .eql .f64 y 0 = true) : Calls Try.prog 101 #[.float .f64 y, .float .f64 x] w (RetW 0 w) := by
  have n64 := nrm64_0
  have ey : nrm .f64 y = y := fN_nrm fy
  have ex : nrm .f64 x = x := fN_nrm fx
  have sy := self_sub fy
  have sx := self_sub fx
  clear fy fx
  go_enter Try.func101, Try.ntmps101
  go_wp2_with (first | (with_reducible refine wpList_fop rfl _ _ _ _ _ rfl rfl .f64 _ _ rfl rfl ?_; intro r m hr) | (with_reducible refine wpList_fopg _ _ _ _ _ rfl rfl .f64 _ _ rfl rfl (by with_unfolding_all rfl) ?_; intro r m hr))
  go_ret
  exact ⟨_, _, rfl, n64, by first | rfl | (simp only [World.drewN_drewN]; rfl)⟩
/-- The angle in 64 bits, and what is narrowed fits. -/
theorem angS_spec (y x : Nat) (w : World) (fy : fN .f32 y = true) (fx : fN .f32 x = true) (by_ : A (vN .f32 y) < p2 1023) (bx : A (vN .f32 x) < p2 1023) :
    Calls Try.prog 101 #[.float .f64 (wd y), .float .f64 (wd x)] w fun e w' => ∃ r m, e = .returned (.float .f64 r) ∧ w' = w.drewN m ∧ fit1 (nrm .f64 r) ∧ nw (nrm .f64 r) = angF y x := by
  have g0 : fN .f32 0 = true := by decide +kernel
  have g1 : fN .f64 0 = true := by decide +kernel
  have v1 : vN .f64 0 = 0 := by decide +kernel
  obtain ⟨w1, w2⟩ := wd_ok fy by_
  obtain ⟨w3, w4⟩ := wd_ok fx bx
  have ly := wd_lt fy by_
  have lx := wd_lt fx bx
  have cx := cmp_eql w3 g1
  have cy := cmp_eql w1 g1
  have lsx := cmp_lss w3 g1
  have cx3 := cmp_eql fx g0
  have cy3 := cmp_eql fy g0
  rw [v1, w4] at cx lsx
  rw [v1, w2] at cy
  rw [vN0] at cx3 cy3
  by_cases hz : vN .f32 x = 0 ∧ vN .f32 y = 0
  · obtain ⟨hx, hy⟩ := hz
    refine (angS_zero (wd y) (wd x) w w1 w3 (by rw [cx]; simp [hx]) (by rw [cy]; simp [hy])).mono ?_
    rintro e w' ⟨r, m, rfl, hr, rfl⟩
    have e0 : angF y x = 0 := by unfold angF; rw [cx3, cy3]; simp [hx, hy]
    have z : fit1 0 ∧ nw 0 = 0 := by unfold fit1; decide +kernel
    exact ⟨r, m, rfl, rfl, by rw [hr]; exact z.1, by rw [hr, e0]; exact z.2⟩
  · have hA := angA_of fy fx by_ bx (by grind)
    have e0 : angF y x = nw (angW (wd y) (wd x)) := by
      unfold angF
      rw [cx3, cy3, if_neg]
      simp only [Bool.and_eq_true, decide_eq_true_eq]
      exact hz
    have post : ∀ e w', RetW (angW (wd y) (wd x)) w e w' → ∃ r m, e = .returned (.float .f64 r) ∧ w' = w.drewN m ∧ fit1 (nrm .f64 r) ∧ nw (nrm .f64 r) = angF y x := by
      rintro e w' ⟨r, m, rfl, hr, rfl⟩
      exact ⟨r, m, rfl, rfl, by rw [hr]; exact (ang_fit (angW_iv hA)).1, by rw [hr, e0]⟩
    by_cases hx : vN .f32 x = 0
    · have hy : vN .f32 y ≠ 0 := fun h => hz ⟨hx, h⟩
      refine (angS_up (wd y) (wd x) w ly lx w1 w3 (by rw [cx]; simp [hx]) (by rw [cy]; simp [hy]) (by rw [lsx, hx]; decide) hA ?_).mono (fun e w' h => post e w' h)
      rw [cmp_gtr hA.fa hA.fb, (absW_val w1).2, (absW_val w3).2, w2, w4, hx, A_zero]
      simp only [decide_eq_true_eq]
      have := A_nonneg (vN .f32 y)
      refine Rat.lt_of_le_of_ne this (fun h => hy ?_)
      have a1 := le_A (vN .f32 y)
      exact Rat.le_antisymm (by grind) (by grind)
    · cases hg : fcmp .gtr .f64 (absW (wd y)) (absW (wd x))
      · exact (angS_low (wd y) (wd x) w ly lx w1 w3 (by rw [cx]; simp [hx]) hA hg).mono (fun e w' h => post e w' h)
      · exact (angS_high (wd y) (wd x) w ly lx w1 w3 (by rw [cx]; simp [hx]) hA hg).mono (fun e w' h => post e w' h)
def RetAS (F : Nat) (w : World) (e : Ending) (w' : World) : Prop := ∃ r m, e = .returned (.float .f32 r) ∧ nrm .f32 r = F ∧ w' = w.drewN m
set_option maxRecDepth 100000 in
set_option maxHeartbeats 800000 in
theorem angC_spec (z : C2) (w : World) (fz : fC (nc z)) (b1 : A (cv (nc z)).re < p2 1023) (b2 : A (cv (nc z)).im < p2 1023) : Calls Try.prog 92 #[.complex .f32 z.1 z.2] w (RetAS (angF (nc z).2 (nc z).1) w) := by
  have H := Lib.hid (fun w1 => angS_spec (nc z).2 (nc z).1 w1 fz.2 fz.1 b2 b1)
  have EY := Lib.hid (fun r (hr : nrm .f64 r = wd (nrm .f32 z.2)) => raw_of hr (wd_ok fz.2 b2).1)
  have EX := Lib.hid (fun r (hr : nrm .f64 r = wd (nrm .f32 z.1)) => raw_of hr (wd_ok fz.1 b1).1)
  clear fz b1 b2
  go_enter Try.func92, Try.ntmps92
  go_wp2_with (first | (with_reducible refine wpList_wid rfl _ rfl _ rfl ?_; intro r m hr; first | (have hx2 := hr; have _c := hy1) | (have hy1 := hr)))
  obtain rfl := EY.out _ hy1
  obtain rfl := EX.out _ hx2
  refine (H.out _).mono ?_
  rintro e w' ⟨a, ma, rfl, rfl, fa, ha⟩
  have Fa := Lib.hid fa
  have Ha := Lib.hid ha
  clear fa ha
  go_wp2_with fail
  (go_at_call 81; ((with_reducible refine (narrow_spec a Fa _).mono ?_); rintro e w' ⟨b, mb, rfl, hb, rfl⟩))
  have K := Lib.hid (hb.trans Ha.out)
  clear hb
  go_wp2_with fail
  go_ret
  exact ⟨_, _, rfl, K.out, by first | rfl | (simp only [World.drewN_drewN]; rfl)⟩
end Go.Proofs.Ytklonahkacikbaa
