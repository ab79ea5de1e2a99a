/- The angle of a point in turns, of the program, as a pure function. Conditions: finite numbers. -/
import Derived.Test.YtklonahkacikbaaU11
import Derived.Deep.LoopGhost
namespace Go.Proofs.Ytklonahkacikbaa
open Go Go.RowKit
set_option linter.unusedSimpArgs false
set_option linter.unusedVariables false

def RetA (F : Nat) (w : World) (e : Ending) (w' : World) : Prop := ∃ r, e = .returned (.float .f32 r) ∧ nrm .f32 r = F ∧ Below w.heap.size w w'
theorem lss_wd {x : Nat} (f : fN .f32 (nrm .f32 x) = true) (b : A (vN .f32 (nrm .f32 x)) < p2 1023) : fcmp .lss .f64 (wd (nrm .f32 x)) 0 = fcmp .lss .f32 (nrm .f32 x) 0 := by
  obtain ⟨w1, w2⟩ := wd_ok f b
  have g0 : fN .f32 0 = true := by decide +kernel
  have g1 : fN .f64 0 = true := by decide +kernel
  have v1 : vN .f64 0 = 0 := by decide +kernel
  rw [cmp_lss w1 g1, cmp_lss f g0, w2, v1, vN0]
/-- The last steps: what is narrowed fits. -/
theorem ang_last {a b : Nat} (h : AngA a b) (g b1 b2 : Bool) (q : Nat) (hq : nrm .f64 q = angX b1 (angG g (angM (tI (angT a b) 3)))) : fit1 (nrm .f64 (if b2 then Op.negFloat .f64 q else q)) ∧ nrm .f64 (if b2 then Op.negFloat .f64 q else q) = angN b2 (angX b1 (angG g (angM (tI (angT a b) 3)))) := by
  have i1 := angX_iv b1 (angG_iv g h.m)
  have e : q = angX b1 (angG g (angM (tI (angT a b) 3))) := raw_of hq i1.1
  have i2 := angN_iv b2 i1
  have e2 : nrm .f64 (if b2 then Op.negFloat .f64 q else q) = angN b2 (angX b1 (angG g (angM (tI (angT a b) 3)))) := by
    rw [e]
    exact fN_nrm (x := angN b2 _) i2.1
  exact ⟨by rw [e2]; exact (ang_fit i2).1, e2⟩

set_option maxRecDepth 100000 in
set_option maxHeartbeats 3200000 in
theorem angT_low (y x : Nat) (w : World) (fy : fN .f32 (nrm .f32 y) = true) (fx : fN .f32 (nrm .f32 x) = true) (by_ : A (vN .f32 (nrm .f32 y)) < p2 1023) (bx : A (vN .f32 (nrm .f32 x)) < p2 1023)
    (hx0 : fcmp .eql .f32 (nrm .f32 x) 0 = false) (hA : AngA (absW (wd (nrm .f32 y))) (absW (wd (nrm .f32 x)))) (hg : fcmp .gtr .f64 (absW (wd (nrm .f32 y))) (absW (wd (nrm .f32 x))) = false) :
    Calls Try.prog 54 #[.float .f32 y, .float .f32 x] w (RetA (angF (nrm .f32 y) (nrm .f32 x)) w) := by
  have n32 := nrm0
  have n64 := nrm64_0
  have Hfin := Lib.hid (show allFin [x, y] = true by simp [allFin, finF_iff, fx, fy])
  have HY := Lib.hid (fun r hr => wid_abs (r := r) fy by_ hr)
  have HX := Lib.hid (fun r hr => wid_abs (r := r) fx bx hr)
  have EY := Lib.hid (fun r (hr : nrm .f64 r = wd (nrm .f32 y)) => raw_of hr (wd_ok fy by_).1)
  have EX := Lib.hid (fun r (hr : nrm .f64 r = wd (nrm .f32 x)) => raw_of hr (wd_ok fx bx).1)
  have na : nrm .f64 (absW (wd (nrm .f32 y))) = absW (wd (nrm .f32 y)) := fN_nrm hA.fa
  have nb : nrm .f64 (absW (wd (nrm .f32 x))) = absW (wd (nrm .f32 x)) := fN_nrm hA.fb
  have LY := Lib.hid (lss_wd fy by_)
  have LX := Lib.hid (lss_wd fx bx)
  have CXY := Lib.hid (show (fcmp .eql .f32 (nrm .f32 x) 0 && fcmp .eql .f32 (nrm .f32 y) 0) = false by rw [hx0]; rfl)
  have Hg := Lib.hid hg
  have HA := Lib.hid hA
  have HBX := Lib.hid True.intro
  clear fy fx by_ bx hA
  go_enter Try.func54, Try.ntmps54
  go_wp2_with (first | (go_at_call 75; refine (areFinite_impl _ [x, y] _ (rd_two _ x y) (by simp)).mono ?_; rintro e w' ⟨m1, rfl, rfl⟩; rw [Hfin.out]) | (with_reducible refine wpList_wid rfl _ rfl _ rfl ?_; intro ry mry hry))
  refine (abs_impl ry _ (HY.out ry hry).1).mono ?_
  rintro e w' ⟨rfl, rfl⟩
  go_wp2_with (with_reducible refine wpList_wid rfl _ rfl _ rfl ?_; intro rx mrx hrx)
  refine (abs_impl rx _ (HX.out rx hrx).1).mono ?_
  rintro e w' ⟨rfl, rfl⟩
  obtain rfl := EY.out ry hry
  obtain rfl := EX.out rx hrx
  have T0E := Lib.hid (show angT (absW (wd (nrm .f32 y))) (absW (wd (nrm .f32 x))) = fop .quo .f64 (absW (wd (nrm .f32 y))) (absW (wd (nrm .f32 x))) by unfold angT; rw [hg]; rfl)
  have FIT0 := Lib.hid (fun (b1 b2 : Bool) (q : Nat) (h : nrm .f64 q = angX b1 (angG false (angM (tI (angT (absW (wd (nrm .f32 y))) (absW (wd (nrm .f32 x)))) 3)))) => ang_last HA.out false b1 b2 q h)
  have EF := Lib.hid (show angF (nrm .f32 y) (nrm .f32 x) = nw (angN (fcmp .lss .f32 (nrm .f32 y) 0) (angX (fcmp .lss .f32 (nrm .f32 x) 0) (angG false (angM (tI (angT (absW (wd (nrm .f32 y))) (absW (wd (nrm .f32 x)))) 3))))) from by
    unfold angF angW; rw [CXY.out, Hg.out, LX.out, LY.out]; rfl)
  clear LX LY CXY Hg
  generalize angT (absW (wd (nrm .f32 y))) (absW (wd (nrm .f32 x))) = T0 at *
  generalize absW (wd (nrm .f32 y)) = aa at *
  generalize absW (wd (nrm .f32 x)) = bb at *
  clear hry hrx
  go_wp2_with (with_reducible refine wpList_fop rfl _ _ _ _ _ rfl rfl .f64 _ _ rfl rfl ?_; intro r m hr)
  have T1 := Lib.hid (show nrm .f64 r = T0 from by rw [hr, na, nb, T0E.out])
  clear hr T0E
  go_loopw [7, 42] (fun tv iv wr => ∃ (t j k : Nat), tv = .float .f64 t ∧ iv = .int .i64 j ∧ j ≤ 3 ∧ nrm .f64 t = tI T0 j ∧ wr = (w.alloc (.cells #[.float .f32 x, .float .f32 y] 34)).drewN k) (fun _ iv _ => 3 - (intOf iv).toNat)
  case atStart => exact ⟨r, 0, _, rfl, rfl, by omega, T1.out, by first | rfl | (simp; rfl)⟩
  case round =>
    obtain ⟨t, j, k, rfl, rfl, hj, ht, rfl⟩ := hrel
    by_cases hlt : j < 3
    · have j1 : (j : Int) < 3 := by omega
      go_wp2_with (first | (with_reducible refine wpList_fop rfl _ _ _ _ _ rfl rfl .f64 _ _ rfl rfl ?_; intro r m hr) | (go_at_call 78; refine (sqrt_lib _ _).mono ?_; rintro e w' ⟨sv, ms, rfl, hsv, rfl⟩))
      go_roundw
      case rel => exact ⟨r, j + 1, _, rfl, by go_num, by omega, (by unfold tI tS; simp only [*]), by first | rfl | (simp; rfl)⟩
      case measure => simp [intOf]; omega
    · obtain rfl : j = 3 := by omega
      have Ht := Lib.hid ht
      clear ht
      go_wp2_with (with_reducible refine wpList_fop rfl _ _ _ _ _ rfl rfl .f64 _ _ rfl rfl ?_; intro r m hr)
      have HU2 := Lib.hid (show nrm .f64 r = fop .mul .f64 (tI T0 3) (tI T0 3) from by rw [hr, Ht.out])
      clear hr
      go_loopg [9, 10] 8 (fun g pv kv wr => ∃ kr, kv = .float .f64 kr ∧ nrm .f64 kr = kA (8 - g) ∧ g ≤ 8 ∧ ∃ p m, pv = .float .f64 p ∧ nrm .f64 p = angP (fop .mul .f64 (tI T0 3) (tI T0 3)) (8 - g) ∧ wr = (w.alloc (.cells #[.float .f32 x, .float .f32 y] 34)).drewN m)
      case atStart => exact ⟨_, rfl, kA_zero, by omega, _, _, rfl, rfl, by first | rfl | (simp; rfl)⟩
      case round =>
        obtain ⟨kr, rfl, hk, hj, p, m, rfl, hp, rfl⟩ := hrel
        by_cases hlt : 0 < gk
        · obtain ⟨j, rfl⟩ : ∃ j, gk = 8 - j := ⟨8 - gk, by omega⟩
          have hj8 : j < 8 := by omega
          rw [show 8 - (8 - j) = j by omega] at hk hp
          have ht := kA_test j hj8
          have Hn := Lib.hid (kA_next j hj8)
          have hu2 := HU2.out
          go_wp2_with (with_reducible refine wpList_fop rfl _ _ _ _ _ rfl rfl .f64 _ _ rfl rfl ?_; intro r m hr)
          go_roundg (8 - (j + 1))
          case measure => omega
          case rel =>
            refine ⟨_, rfl, ?_, by omega, _, _, rfl, ?_, by first | rfl | (simp only [World.drewN_drewN]; rfl)⟩
            · rw [show 8 - (8 - (j + 1)) = j + 1 by omega, ← Hn.out]; simp only [*]
            · rw [show 8 - (8 - (j + 1)) = j + 1 by omega]; unfold angP; simp only [*]
        · obtain rfl : gk = 0 := by omega
          have hkt := kA_last
          have hk2 : nrm .f64 kr = kA 8 := hk
          have hp2 : nrm .f64 p = angP (fop .mul .f64 (tI T0 3) (tI T0 3)) 8 := hp
          have ht := Ht.out
          clear hk hp
          have hp := hp2
          clear hp2
          have HB := Lib.hid (show ∀ m, Below w.heap.size w ((w.alloc (.cells #[.float .f32 x, .float .f32 y] 34)).drewN m) from fun m => below_drewN ((Below.refl _ _).alloc (Nat.le_refl _) _) m)
          cases hbx : fcmp .lss .f32 (nrm .f32 x) 0
          · -- bx 0
            have HQ := Lib.hid (fun (q1 q2 q3 : Nat) (e1 : nrm .f64 q1 = fop .mul .f64 (nrm .f64 t) (nrm .f64 p)) (e2 : nrm .f64 q2 = fop .mul .f64 (nrm .f64 4620693217682128896) (nrm .f64 q1)) (e3 : nrm .f64 q3 = fop .quo .f64 (nrm .f64 q2) (nrm .f64 4618760256179416344)) => show nrm .f64 q3 = angX false (angG false (angM (tI T0 3))) from by
              unfold angX angG angM; simp only [reduceIte, Bool.false_eq_true]; rw [e3, e2, e1, ht, hp])
            cases hneg : fcmp .lss .f32 (nrm .f32 y) 0
            · have FIT := Lib.hid (fun (q : Nat) (h : nrm .f64 q = angX false (angG false (angM (tI T0 3)))) => Lib.hid (show fit1 (nrm .f64 (q)) from (FIT0.out false false q h).1))
              have RES := Lib.hid (fun (q r : Nat) (h : nrm .f64 q = angX false (angG false (angM (tI T0 3)))) (hr : nrm .f32 r = nw (nrm .f64 (q))) => show nrm .f32 r = angF (nrm .f32 y) (nrm .f32 x) from by
                rw [hr, show nrm .f64 (q) = _ from (FIT0.out false false q h).2]; rw [EF.out, hneg, hbx])
              clear ht hp
              go_wp2_with (first | (with_reducible refine wpList_fop rfl _ _ _ _ _ rfl rfl .f64 _ _ rfl rfl ?_; intro r m hr; (first | (have _u := hq2; have hq3 := hr) | (have _u := hq1; have hq2 := hr) | (have hq1 := hr))) | (with_reducible refine wpList_nar rfl _ rfl _ rfl (FIT.out _ (HQ.out _ _ _ hq1 hq2 hq3)).out ?_; intro r2 mr2 hr2))
              go_ret
              exact ⟨_, rfl, RES.out _ _ (HQ.out _ _ _ hq1 hq2 hq3) hr2, by first | exact HB.out _ | (simp only [World.drewN_drewN]; exact HB.out _)⟩
            · have FIT := Lib.hid (fun (q : Nat) (h : nrm .f64 q = angX false (angG false (angM (tI T0 3)))) => Lib.hid (show fit1 (nrm .f64 (Op.negFloat .f64 q)) from (FIT0.out false true q h).1))
              have RES := Lib.hid (fun (q r : Nat) (h : nrm .f64 q = angX false (angG false (angM (tI T0 3)))) (hr : nrm .f32 r = nw (nrm .f64 (Op.negFloat .f64 q))) => show nrm .f32 r = angF (nrm .f32 y) (nrm .f32 x) from by
                rw [hr, show nrm .f64 (Op.negFloat .f64 q) = _ from (FIT0.out false true q h).2]; rw [EF.out, hneg, hbx])
              clear ht hp
              go_wp2_with (first | (with_reducible refine wpList_fop rfl _ _ _ _ _ rfl rfl .f64 _ _ rfl rfl ?_; intro r m hr; (first | (have _u := hq2; have hq3 := hr) | (have _u := hq1; have hq2 := hr) | (have hq1 := hr))) | (with_reducible refine wpList_nar rfl _ rfl _ rfl (FIT.out _ (HQ.out _ _ _ hq1 hq2 hq3)).out ?_; intro r2 mr2 hr2))
              go_ret
              exact ⟨_, rfl, RES.out _ _ (HQ.out _ _ _ hq1 hq2 hq3) hr2, by first | exact HB.out _ | (simp only [World.drewN_drewN]; exact HB.out _)⟩
          · -- bx 1
            have HQ := Lib.hid (fun (q1 q2 q3 q4 : Nat) (e1 : nrm .f64 q1 = fop .mul .f64 (nrm .f64 t) (nrm .f64 p)) (e2 : nrm .f64 q2 = fop .mul .f64 (nrm .f64 4620693217682128896) (nrm .f64 q1)) (e3 : nrm .f64 q3 = fop .quo .f64 (nrm .f64 q2) (nrm .f64 4618760256179416344)) (e4 : nrm .f64 q4 = fop .sub .f64 (nrm .f64 4602678819172646912) (nrm .f64 q3)) => show nrm .f64 q4 = angX true (angG false (angM (tI T0 3))) from by
              unfold angX angG angM; simp only [reduceIte, Bool.false_eq_true]; rw [e4, e3, e2, e1, ht, hp])
            cases hneg : fcmp .lss .f32 (nrm .f32 y) 0
            · have FIT := Lib.hid (fun (q : Nat) (h : nrm .f64 q = angX true (angG false (angM (tI T0 3)))) => Lib.hid (show fit1 (nrm .f64 (q)) from (FIT0.out true false q h).1))
              have RES := Lib.hid (fun (q r : Nat) (h : nrm .f64 q = angX true (angG false (angM (tI T0 3)))) (hr : nrm .f32 r = nw (nrm .f64 (q))) => show nrm .f32 r = angF (nrm .f32 y) (nrm .f32 x) from by
                rw [hr, show nrm .f64 (q) = _ from (FIT0.out true false q h).2]; rw [EF.out, hneg, hbx])
              clear ht hp
              go_wp2_with (first | (with_reducible refine wpList_fop rfl _ _ _ _ _ rfl rfl .f64 _ _ rfl rfl ?_; intro r m hr; (first | (have _u := hq3; have hq4 := hr) | (have _u := hq2; have hq3 := hr) | (have _u := hq1; have hq2 := hr) | (have hq1 := hr))) | (with_reducible refine wpList_nar rfl _ rfl _ rfl (FIT.out _ (HQ.out _ _ _ _ hq1 hq2 hq3 hq4)).out ?_; intro r2 mr2 hr2))
              go_ret
              exact ⟨_, rfl, RES.out _ _ (HQ.out _ _ _ _ hq1 hq2 hq3 hq4) hr2, by first | exact HB.out _ | (simp only [World.drewN_drewN]; exact HB.out _)⟩
            · have FIT := Lib.hid (fun (q : Nat) (h : nrm .f64 q = angX true (angG false (angM (tI T0 3)))) => Lib.hid (show fit1 (nrm .f64 (Op.negFloat .f64 q)) from (FIT0.out true true q h).1))
              have RES := Lib.hid (fun (q r : Nat) (h : nrm .f64 q = angX true (angG false (angM (tI T0 3)))) (hr : nrm .f32 r = nw (nrm .f64 (Op.negFloat .f64 q))) => show nrm .f32 r = angF (nrm .f32 y) (nrm .f32 x) from by
                rw [hr, show nrm .f64 (Op.negFloat .f64 q) = _ from (FIT0.out true true q h).2]; rw [EF.out, hneg, hbx])
              clear ht hp
              go_wp2_with (first | (with_reducible refine wpList_fop rfl _ _ _ _ _ rfl rfl .f64 _ _ rfl rfl ?_; intro r m hr; (first | (have _u := hq3; have hq4 := hr) | (have _u := hq2; have hq3 := hr) | (have _u := hq1; have hq2 := hr) | (have hq1 := hr))) | (with_reducible refine wpList_nar rfl _ rfl _ rfl (FIT.out _ (HQ.out _ _ _ _ hq1 hq2 hq3 hq4)).out ?_; intro r2 mr2 hr2))
              go_ret
              exact ⟨_, rfl, RES.out _ _ (HQ.out _ _ _ _ hq1 hq2 hq3 hq4) hr2, by first | exact HB.out _ | (simp only [World.drewN_drewN]; exact HB.out _)⟩

set_option maxRecDepth 100000 in
set_option maxHeartbeats 3200000 in
theorem angT_high (y x : Nat) (w : World) (fy : fN .f32 (nrm .f32 y) = true) (fx : fN .f32 (nrm .f32 x) = true) (by_ : A (vN .f32 (nrm .f32 y)) < p2 1023) (bx : A (vN .f32 (nrm .f32 x)) < p2 1023)
    (hx0 : fcmp .eql .f32 (nrm .f32 x) 0 = false) (hA : AngA (absW (wd (nrm .f32 y))) (absW (wd (nrm .f32 x)))) (hg : fcmp .gtr .f64 (absW (wd (nrm .f32 y))) (absW (wd (nrm .f32 x))) = true) :
    Calls Try.prog 54 #[.float .f32 y, .float .f32 x] w (RetA (angF (nrm .f32 y) (nrm .f32 x)) w) := by
  have n32 := nrm0
  have n64 := nrm64_0
  have Hfin := Lib.hid (show allFin [x, y] = true by simp [allFin, finF_iff, fx, fy])
  have HY := Lib.hid (fun r hr => wid_abs (r := r) fy by_ hr)
  have HX := Lib.hid (fun r hr => wid_abs (r := r) fx bx hr)
  have EY := Lib.hid (fun r (hr : nrm .f64 r = wd (nrm .f32 y)) => raw_of hr (wd_ok fy by_).1)
  have EX := Lib.hid (fun r (hr : nrm .f64 r = wd (nrm .f32 x)) => raw_of hr (wd_ok fx bx).1)
  have na : nrm .f64 (absW (wd (nrm .f32 y))) = absW (wd (nrm .f32 y)) := fN_nrm hA.fa
  have nb : nrm .f64 (absW (wd (nrm .f32 x))) = absW (wd (nrm .f32 x)) := fN_nrm hA.fb
  have LY := Lib.hid (lss_wd fy by_)
  have LX := Lib.hid (lss_wd fx bx)
  have CXY := Lib.hid (show (fcmp .eql .f32 (nrm .f32 x) 0 && fcmp .eql .f32 (nrm .f32 y) 0) = false by rw [hx0]; rfl)
  have Hg := Lib.hid hg
  have HA := Lib.hid hA
  have HBX := Lib.hid True.intro
  clear fy fx by_ bx hA
  go_enter Try.func54, Try.ntmps54
  go_wp2_with (first | (go_at_call 75; refine (areFinite_impl _ [x, y] _ (rd_two _ x y) (by simp)).mono ?_; rintro e w' ⟨m1, rfl, rfl⟩; rw [Hfin.out]) | (with_reducible refine wpList_wid rfl _ rfl _ rfl ?_; intro ry mry hry))
  refine (abs_impl ry _ (HY.out ry hry).1).mono ?_
  rintro e w' ⟨rfl, rfl⟩
  go_wp2_with (with_reducible refine wpList_wid rfl _ rfl _ rfl ?_; intro rx mrx hrx)
  refine (abs_impl rx _ (HX.out rx hrx).1).mono ?_
  rintro e w' ⟨rfl, rfl⟩
  obtain rfl := EY.out ry hry
  obtain rfl := EX.out rx hrx
  have T0E := Lib.hid (show angT (absW (wd (nrm .f32 y))) (absW (wd (nrm .f32 x))) = fop .quo .f64 (absW (wd (nrm .f32 x))) (absW (wd (nrm .f32 y))) by unfold angT; rw [hg]; rfl)
  have FIT0 := Lib.hid (fun (b1 b2 : Bool) (q : Nat) (h : nrm .f64 q = angX b1 (angG true (angM (tI (angT (absW (wd (nrm .f32 y))) (absW (wd (nrm .f32 x)))) 3)))) => ang_last HA.out true b1 b2 q h)
  have EF := Lib.hid (show angF (nrm .f32 y) (nrm .f32 x) = nw (angN (fcmp .lss .f32 (nrm .f32 y) 0) (angX (fcmp .lss .f32 (nrm .f32 x) 0) (angG true (angM (tI (angT (absW (wd (nrm .f32 y))) (absW (wd (nrm .f32 x)))) 3))))) from by
    unfold angF angW; rw [CXY.out, Hg.out, LX.out, LY.out]; rfl)
  clear LX LY CXY Hg
  generalize angT (absW (wd (nrm .f32 y))) (absW (wd (nrm .f32 x))) = T0 at *
  generalize absW (wd (nrm .f32 y)) = aa at *
  generalize absW (wd (nrm .f32 x)) = bb at *
  clear hry hrx
  go_wp2_with (with_reducible refine wpList_fop rfl _ _ _ _ _ rfl rfl .f64 _ _ rfl rfl ?_; intro r m hr)
  have T1 := Lib.hid (show nrm .f64 r = T0 from by rw [hr, na, nb, T0E.out])
  clear hr T0E
  go_loopw [7, 42] (fun tv iv wr => ∃ (t j k : Nat), tv = .float .f64 t ∧ iv = .int .i64 j ∧ j ≤ 3 ∧ nrm .f64 t = tI T0 j ∧ wr = (w.alloc (.cells #[.float .f32 x, .float .f32 y] 34)).drewN k) (fun _ iv _ => 3 - (intOf iv).toNat)
  case atStart => exact ⟨r, 0, _, rfl, rfl, by omega, T1.out, by first | rfl | (simp; rfl)⟩
  case round =>
    obtain ⟨t, j, k, rfl, rfl, hj, ht, rfl⟩ := hrel
    by_cases hlt : j < 3
    · have j1 : (j : Int) < 3 := by omega
      go_wp2_with (first | (with_reducible refine wpList_fop rfl _ _ _ _ _ rfl rfl .f64 _ _ rfl rfl ?_; intro r m hr) | (go_at_call 78; refine (sqrt_lib _ _).mono ?_; rintro e w' ⟨sv, ms, rfl, hsv, rfl⟩))
      go_roundw
      case rel => exact ⟨r, j + 1, _, rfl, by go_num, by omega, (by unfold tI tS; simp only [*]), by first | rfl | (simp; rfl)⟩
      case measure => simp [intOf]; omega
    · obtain rfl : j = 3 := by omega
      have Ht := Lib.hid ht
      clear ht
      go_wp2_with (with_reducible refine wpList_fop rfl _ _ _ _ _ rfl rfl .f64 _ _ rfl rfl ?_; intro r m hr)
      have HU2 := Lib.hid (show nrm .f64 r = fop .mul .f64 (tI T0 3) (tI T0 3) from by rw [hr, Ht.out])
      clear hr
      go_loopg [9, 10] 8 (fun g pv kv wr => ∃ kr, kv = .float .f64 kr ∧ nrm .f64 kr = kA (8 - g) ∧ g ≤ 8 ∧ ∃ p m, pv = .float .f64 p ∧ nrm .f64 p = angP (fop .mul .f64 (tI T0 3) (tI T0 3)) (8 - g) ∧ wr = (w.alloc (.cells #[.float .f32 x, .float .f32 y] 34)).drewN m)
      case atStart => exact ⟨_, rfl, kA_zero, by omega, _, _, rfl, rfl, by first | rfl | (simp; rfl)⟩
      case round =>
        obtain ⟨kr, rfl, hk, hj, p, m, rfl, hp, rfl⟩ := hrel
        by_cases hlt : 0 < gk
        · obtain ⟨j, rfl⟩ : ∃ j, gk = 8 - j := ⟨8 - gk, by omega⟩
          have hj8 : j < 8 := by omega
          rw [show 8 - (8 - j) = j by omega] at hk hp
          have ht := kA_test j hj8
          have Hn := Lib.hid (kA_next j hj8)
          have hu2 := HU2.out
          go_wp2_with (with_reducible refine wpList_fop rfl _ _ _ _ _ rfl rfl .f64 _ _ rfl rfl ?_; intro r m hr)
          go_roundg (8 - (j + 1))
          case measure => omega
          case rel =>
            refine ⟨_, rfl, ?_, by omega, _, _, rfl, ?_, by first | rfl | (simp only [World.drewN_drewN]; rfl)⟩
            · rw [show 8 - (8 - (j + 1)) = j + 1 by omega, ← Hn.out]; simp only [*]
            · rw [show 8 - (8 - (j + 1)) = j + 1 by omega]; unfold angP; simp only [*]
        · obtain rfl : gk = 0 := by omega
          have hkt := kA_last
          have hk2 : nrm .f64 kr = kA 8 := hk
          have hp2 : nrm .f64 p = angP (fop .mul .f64 (tI T0 3) (tI T0 3)) 8 := hp
          have ht := Ht.out
          clear hk hp
          have hp := hp2
          clear hp2
          have HB := Lib.hid (show ∀ m, Below w.heap.size w ((w.alloc (.cells #[.float .f32 x, .float .f32 y] 34)).drewN m) from fun m => below_drewN ((Below.refl _ _).alloc (Nat.le_refl _) _) m)
          cases hbx : fcmp .lss .f32 (nrm .f32 x) 0
          · -- bx 0
            have HQ := Lib.hid (fun (q1 q2 q3 q4 : Nat) (e1 : nrm .f64 q1 = fop .mul .f64 (nrm .f64 t) (nrm .f64 p)) (e2 : nrm .f64 q2 = fop .mul .f64 (nrm .f64 4620693217682128896) (nrm .f64 q1)) (e3 : nrm .f64 q3 = fop .quo .f64 (nrm .f64 q2) (nrm .f64 4618760256179416344)) (e4 : nrm .f64 q4 = fop .sub .f64 (nrm .f64 4598175219545276416) (nrm .f64 q3)) => show nrm .f64 q4 = angX false (angG true (angM (tI T0 3))) from by
              unfold angX angG angM; simp only [reduceIte, Bool.false_eq_true]; rw [e4, e3, e2, e1, ht, hp])
            cases hneg : fcmp .lss .f32 (nrm .f32 y) 0
            · have FIT := Lib.hid (fun (q : Nat) (h : nrm .f64 q = angX false (angG true (angM (tI T0 3)))) => Lib.hid (show fit1 (nrm .f64 (q)) from (FIT0.out false false q h).1))
              have RES := Lib.hid (fun (q r : Nat) (h : nrm .f64 q = angX false (angG true (angM (tI T0 3)))) (hr : nrm .f32 r = nw (nrm .f64 (q))) => show nrm .f32 r = angF (nrm .f32 y) (nrm .f32 x) from by
                rw [hr, show nrm .f64 (q) = _ from (FIT0.out false false q h).2]; rw [EF.out, hneg, hbx])
              clear ht hp
              go_wp2_with (first | (with_reducible refine wpList_fop rfl _ _ _ _ _ rfl rfl .f64 _ _ rfl rfl ?_; intro r m hr; (first | (have _u := hq3; have hq4 := hr) | (have _u := hq2; have hq3 := hr) | (have _u := hq1; have hq2 := hr) | (have hq1 := hr))) | (with_reducible refine wpList_nar rfl _ rfl _ rfl (FIT.out _ (HQ.out _ _ _ _ hq1 hq2 hq3 hq4)).out ?_; intro r2 mr2 hr2))
              go_ret
              exact ⟨_, rfl, RES.out _ _ (HQ.out _ _ _ _ hq1 hq2 hq3 hq4) hr2, by first | exact HB.out _ | (simp only [World.drewN_drewN]; exact HB.out _)⟩
            · have FIT := Lib.hid (fun (q : Nat) (h : nrm .f64 q = angX false (angG true (angM (tI T0 3)))) => Lib.hid (show fit1 (nrm .f64 (Op.negFloat .f64 q)) from (FIT0.out false true q h).1))
              have RES := Lib.hid (fun (q r : Nat) (h : nrm .f64 q = angX false (angG true (angM (tI T0 3)))) (hr : nrm .f32 r = nw (nrm .f64 (Op.negFloat .f64 q))) => show nrm .f32 r = angF (nrm .f32 y) (nrm .f32 x) from by
                rw [hr, show nrm .f64 (Op.negFloat .f64 q) = _ from (FIT0.out false true q h).2]; rw [EF.out, hneg, hbx])
              clear ht hp
              go_wp2_with (first | (with_reducible refine wpList_fop rfl _ _ _ _ _ rfl rfl .f64 _ _ rfl rfl ?_; intro r m hr; (first | (have _u := hq3; have hq4 := hr) | (have _u := hq2; have hq3 := hr) | (have _u := hq1; have hq2 := hr) | (have hq1 := hr))) | (with_reducible refine wpList_nar rfl _ rfl _ rfl (FIT.out _ (HQ.out _ _ _ _ hq1 hq2 hq3 hq4)).out ?_; intro r2 mr2 hr2))
              go_ret
              exact ⟨_, rfl, RES.out _ _ (HQ.out _ _ _ _ hq1 hq2 hq3 hq4) hr2, by first | exact HB.out _ | (simp only [World.drewN_drewN]; exact HB.out _)⟩
          · -- bx 1
            have HQ := Lib.hid (fun (q1 q2 q3 q4 q5 : Nat) (e1 : nrm .f64 q1 = fop .mul .f64 (nrm .f64 t) (nrm .f64 p)) (e2 : nrm .f64 q2 = fop .mul .f64 (nrm .f64 4620693217682128896) (nrm .f64 q1)) (e3 : nrm .f64 q3 = fop .quo .f64 (nrm .f64 q2) (nrm .f64 4618760256179416344)) (e4 : nrm .f64 q4 = fop .sub .f64 (nrm .f64 4598175219545276416) (nrm .f64 q3)) (e5 : nrm .f64 q5 = fop .sub .f64 (nrm .f64 4602678819172646912) (nrm .f64 q4)) => show nrm .f64 q5 = angX true (angG true (angM (tI T0 3))) from by
              unfold angX angG angM; simp only [reduceIte, Bool.false_eq_true]; rw [e5, e4, e3, e2, e1, ht, hp])
            cases hneg : fcmp .lss .f32 (nrm .f32 y) 0
            · have FIT := Lib.hid (fun (q : Nat) (h : nrm .f64 q = angX true (angG true (angM (tI T0 3)))) => Lib.hid (show fit1 (nrm .f64 (q)) from (FIT0.out true false q h).1))
              have RES := Lib.hid (fun (q r : Nat) (h : nrm .f64 q = angX true (angG true (angM (tI T0 3)))) (hr : nrm .f32 r = nw (nrm .f64 (q))) => show nrm .f32 r = angF (nrm .f32 y) (nrm .f32 x) from by
                rw [hr, show nrm .f64 (q) = _ from (FIT0.out true false q h).2]; rw [EF.out, hneg, hbx])
              clear ht hp
              go_wp2_with (first | (with_reducible refine wpList_fop rfl _ _ _ _ _ rfl rfl .f64 _ _ rfl rfl ?_; intro r m hr; (first | (have _u := hq4; have hq5 := hr) | (have _u := hq3; have hq4 := hr) | (have _u := hq2; have hq3 := hr) | (have _u := hq1; have hq2 := hr) | (have hq1 := hr))) | (with_reducible refine wpList_nar rfl _ rfl _ rfl (FIT.out _ (HQ.out _ _ _ _ _ hq1 hq2 hq3 hq4 hq5)).out ?_; intro r2 mr2 hr2))
              go_ret
              exact ⟨_, rfl, RES.out _ _ (HQ.out _ _ _ _ _ hq1 hq2 hq3 hq4 hq5) hr2, by first | exact HB.out _ | (simp only [World.drewN_drewN]; exact HB.out _)⟩
            · have FIT := Lib.hid (fun (q : Nat) (h : nrm .f64 q = angX true (angG true (angM (tI T0 3)))) => Lib.hid (show fit1 (nrm .f64 (Op.negFloat .f64 q)) from (FIT0.out true true q h).1))
              have RES := Lib.hid (fun (q r : Nat) (h : nrm .f64 q = angX true (angG true (angM (tI T0 3)))) (hr : nrm .f32 r = nw (nrm .f64 (Op.negFloat .f64 q))) => show nrm .f32 r = angF (nrm .f32 y) (nrm .f32 x) from by
                rw [hr, show nrm .f64 (Op.negFloat .f64 q) = _ from (FIT0.out true true q h).2]; rw [EF.out, hneg, hbx])
              clear ht hp
              go_wp2_with (first | (with_reducible refine wpList_fop rfl _ _ _ _ _ rfl rfl .f64 _ _ rfl rfl ?_; intro r m hr; (first | (have _u := hq4; have hq5 := hr) | (have _u := hq3; have hq4 := hr) | (have _u := hq2; have hq3 := hr) | (have _u := hq1; have hq2 := hr) | (have hq1 := hr))) | (with_reducible refine wpList_nar rfl _ rfl _ rfl (FIT.out _ (HQ.out _ _ _ _ _ hq1 hq2 hq3 hq4 hq5)).out ?_; intro r2 mr2 hr2))
              go_ret
              exact ⟨_, rfl, RES.out _ _ (HQ.out _ _ _ _ _ hq1 hq2 hq3 hq4 hq5) hr2, by first | exact HB.out _ | (simp only [World.drewN_drewN]; exact HB.out _)⟩

set_option maxRecDepth 100000 in
set_option maxHeartbeats 3200000 in
theorem angT_up (y x : Nat) (w : World) (fy : fN .f32 (nrm .f32 y) = true) (fx : fN .f32 (nrm .f32 x) = true) (by_ : A (vN .f32 (nrm .f32 y)) < p2 1023) (bx : A (vN .f32 (nrm .f32 x)) < p2 1023)
    (hx0 : fcmp .eql .f32 (nrm .f32 x) 0 = true) (hy0 : fcmp .eql .f32 (nrm .f32 y) 0 = false) (hbx0 : fcmp .lss .f32 (nrm .f32 x) 0 = false) (hA : AngA (absW (wd (nrm .f32 y))) (absW (wd (nrm .f32 x)))) (hg : fcmp .gtr .f64 (absW (wd (nrm .f32 y))) (absW (wd (nrm .f32 x))) = true) :
    Calls Try.prog 54 #[.float .f32 y, .float .f32 x] w (RetA (angF (nrm .f32 y) (nrm .f32 x)) w) := by
  have n32 := nrm0
  have n64 := nrm64_0
  have Hfin := Lib.hid (show allFin [x, y] = true by simp [allFin, finF_iff, fx, fy])
  have HY := Lib.hid (fun r hr => wid_abs (r := r) fy by_ hr)
  have HX := Lib.hid (fun r hr => wid_abs (r := r) fx bx hr)
  have EY := Lib.hid (fun r (hr : nrm .f64 r = wd (nrm .f32 y)) => raw_of hr (wd_ok fy by_).1)
  have EX := Lib.hid (fun r (hr : nrm .f64 r = wd (nrm .f32 x)) => raw_of hr (wd_ok fx bx).1)
  have na : nrm .f64 (absW (wd (nrm .f32 y))) = absW (wd (nrm .f32 y)) := fN_nrm hA.fa
  have nb : nrm .f64 (absW (wd (nrm .f32 x))) = absW (wd (nrm .f32 x)) := fN_nrm hA.fb
  have LY := Lib.hid (lss_wd fy by_)
  have LX := Lib.hid (lss_wd fx bx)
  have CXY := Lib.hid (show (fcmp .eql .f32 (nrm .f32 x) 0 && fcmp .eql .f32 (nrm .f32 y) 0) = false by rw [hx0, hy0]; rfl)
  have Hg := Lib.hid hg
  have HA := Lib.hid hA
  have HBX := Lib.hid hbx0
  clear fy fx by_ bx hA
  go_enter Try.func54, Try.ntmps54
  go_wp2_with (first | (go_at_call 75; refine (areFinite_impl _ [x, y] _ (rd_two _ x y) (by simp)).mono ?_; rintro e w' ⟨m1, rfl, rfl⟩; rw [Hfin.out]) | (with_reducible refine wpList_wid rfl _ rfl _ rfl ?_; intro ry mry hry))
  refine (abs_impl ry _ (HY.out ry hry).1).mono ?_
  rintro e w' ⟨rfl, rfl⟩
  go_wp2_with (with_reducible refine wpList_wid rfl _ rfl _ rfl ?_; intro rx mrx hrx)
  refine (abs_impl rx _ (HX.out rx hrx).1).mono ?_
  rintro e w' ⟨rfl, rfl⟩
  obtain rfl := EY.out ry hry
  obtain rfl := EX.out rx hrx
  have T0E := Lib.hid (show angT (absW (wd (nrm .f32 y))) (absW (wd (nrm .f32 x))) = fop .quo .f64 (absW (wd (nrm .f32 x))) (absW (wd (nrm .f32 y))) by unfold angT; rw [hg]; rfl)
  have FIT0 := Lib.hid (fun (b1 b2 : Bool) (q : Nat) (h : nrm .f64 q = angX b1 (angG true (angM (tI (angT (absW (wd (nrm .f32 y))) (absW (wd (nrm .f32 x)))) 3)))) => ang_last HA.out true b1 b2 q h)
  have EF := Lib.hid (show angF (nrm .f32 y) (nrm .f32 x) = nw (angN (fcmp .lss .f32 (nrm .f32 y) 0) (angX (fcmp .lss .f32 (nrm .f32 x) 0) (angG true (angM (tI (angT (absW (wd (nrm .f32 y))) (absW (wd (nrm .f32 x)))) 3))))) from by
    unfold angF angW; rw [CXY.out, Hg.out, LX.out, LY.out]; rfl)
  clear LX LY CXY Hg
  generalize angT (absW (wd (nrm .f32 y))) (absW (wd (nrm .f32 x))) = T0 at *
  generalize absW (wd (nrm .f32 y)) = aa at *
  generalize absW (wd (nrm .f32 x)) = bb at *
  clear hry hrx
  go_wp2_with (with_reducible refine wpList_fop rfl _ _ _ _ _ rfl rfl .f64 _ _ rfl rfl ?_; intro r m hr)
  have T1 := Lib.hid (show nrm .f64 r = T0 from by rw [hr, na, nb, T0E.out])
  clear hr T0E
  go_loopw [7, 42] (fun tv iv wr => ∃ (t j k : Nat), tv = .float .f64 t ∧ iv = .int .i64 j ∧ j ≤ 3 ∧ nrm .f64 t = tI T0 j ∧ wr = (w.alloc (.cells #[.float .f32 x, .float .f32 y] 34)).drewN k) (fun _ iv _ => 3 - (intOf iv).toNat)
  case atStart => exact ⟨r, 0, _, rfl, rfl, by omega, T1.out, by first | rfl | (simp; rfl)⟩
  case round =>
    obtain ⟨t, j, k, rfl, rfl, hj, ht, rfl⟩ := hrel
    by_cases hlt : j < 3
    · have j1 : (j : Int) < 3 := by omega
      go_wp2_with (first | (with_reducible refine wpList_fop rfl _ _ _ _ _ rfl rfl .f64 _ _ rfl rfl ?_; intro r m hr) | (go_at_call 78; refine (sqrt_lib _ _).mono ?_; rintro e w' ⟨sv, ms, rfl, hsv, rfl⟩))
      go_roundw
      case rel => exact ⟨r, j + 1, _, rfl, by go_num, by omega, (by unfold tI tS; simp only [*]), by first | rfl | (simp; rfl)⟩
      case measure => simp [intOf]; omega
    · obtain rfl : j = 3 := by omega
      have Ht := Lib.hid ht
      clear ht
      go_wp2_with (with_reducible refine wpList_fop rfl _ _ _ _ _ rfl rfl .f64 _ _ rfl rfl ?_; intro r m hr)
      have HU2 := Lib.hid (show nrm .f64 r = fop .mul .f64 (tI T0 3) (tI T0 3) from by rw [hr, Ht.out])
      clear hr
      go_loopg [9, 10] 8 (fun g pv kv wr => ∃ kr, kv = .float .f64 kr ∧ nrm .f64 kr = kA (8 - g) ∧ g ≤ 8 ∧ ∃ p m, pv = .float .f64 p ∧ nrm .f64 p = angP (fop .mul .f64 (tI T0 3) (tI T0 3)) (8 - g) ∧ wr = (w.alloc (.cells #[.float .f32 x, .float .f32 y] 34)).drewN m)
      case atStart => exact ⟨_, rfl, kA_zero, by omega, _, _, rfl, rfl, by first | rfl | (simp; rfl)⟩
      case round =>
        obtain ⟨kr, rfl, hk, hj, p, m, rfl, hp, rfl⟩ := hrel
        by_cases hlt : 0 < gk
        · obtain ⟨j, rfl⟩ : ∃ j, gk = 8 - j := ⟨8 - gk, by omega⟩
          have hj8 : j < 8 := by omega
          rw [show 8 - (8 - j) = j by omega] at hk hp
          have ht := kA_test j hj8
          have Hn := Lib.hid (kA_next j hj8)
          have hu2 := HU2.out
          go_wp2_with (with_reducible refine wpList_fop rfl _ _ _ _ _ rfl rfl .f64 _ _ rfl rfl ?_; intro r m hr)
          go_roundg (8 - (j + 1))
          case measure => omega
          case rel =>
            refine ⟨_, rfl, ?_, by omega, _, _, rfl, ?_, by first | rfl | (simp only [World.drewN_drewN]; rfl)⟩
            · rw [show 8 - (8 - (j + 1)) = j + 1 by omega, ← Hn.out]; simp only [*]
            · rw [show 8 - (8 - (j + 1)) = j + 1 by omega]; unfold angP; simp only [*]
        · obtain rfl : gk = 0 := by omega
          have hkt := kA_last
          have hk2 : nrm .f64 kr = kA 8 := hk
          have hp2 : nrm .f64 p = angP (fop .mul .f64 (tI T0 3) (tI T0 3)) 8 := hp
          have ht := Ht.out
          clear hk hp
          have hp := hp2
          clear hp2
          have HB := Lib.hid (show ∀ m, Below w.heap.size w ((w.alloc (.cells #[.float .f32 x, .float .f32 y] 34)).drewN m) from fun m => below_drewN ((Below.refl _ _).alloc (Nat.le_refl _) _) m)
          have HQ := Lib.hid (fun (q1 q2 q3 q4 : Nat) (e1 : nrm .f64 q1 = fop .mul .f64 (nrm .f64 t) (nrm .f64 p)) (e2 : nrm .f64 q2 = fop .mul .f64 (nrm .f64 4620693217682128896) (nrm .f64 q1)) (e3 : nrm .f64 q3 = fop .quo .f64 (nrm .f64 q2) (nrm .f64 4618760256179416344)) (e4 : nrm .f64 q4 = fop .sub .f64 (nrm .f64 4598175219545276416) (nrm .f64 q3)) => show nrm .f64 q4 = angX false (angG true (angM (tI T0 3))) from by
            unfold angX angG angM; simp only [reduceIte, Bool.false_eq_true]; rw [e4, e3, e2, e1, ht, hp])
          cases hneg : fcmp .lss .f32 (nrm .f32 y) 0
          · have FIT := Lib.hid (fun (q : Nat) (h : nrm .f64 q = angX false (angG true (angM (tI T0 3)))) => Lib.hid (show fit1 (nrm .f64 (q)) from (FIT0.out false false q h).1))
            have RES := Lib.hid (fun (q r : Nat) (h : nrm .f64 q = angX false (angG true (angM (tI T0 3)))) (hr : nrm .f32 r = nw (nrm .f64 (q))) => show nrm .f32 r = angF (nrm .f32 y) (nrm .f32 x) from by
              rw [hr, show nrm .f64 (q) = _ from (FIT0.out false false q h).2]; rw [EF.out, hneg, HBX.out])
            clear ht hp
            go_wp2_with (first | (with_reducible refine wpList_fop rfl _ _ _ _ _ rfl rfl .f64 _ _ rfl rfl ?_; intro r m hr; (first | (have _u := hq3; have hq4 := hr) | (have _u := hq2; have hq3 := hr) | (have _u := hq1; have hq2 := hr) | (have hq1 := hr))) | (with_reducible refine wpList_nar rfl _ rfl _ rfl (FIT.out _ (HQ.out _ _ _ _ hq1 hq2 hq3 hq4)).out ?_; intro r2 mr2 hr2))
            go_ret
            exact ⟨_, rfl, RES.out _ _ (HQ.out _ _ _ _ hq1 hq2 hq3 hq4) hr2, by first | exact HB.out _ | (simp only [World.drewN_drewN]; exact HB.out _)⟩
          · have FIT := Lib.hid (fun (q : Nat) (h : nrm .f64 q = angX false (angG true (angM (tI T0 3)))) => Lib.hid (show fit1 (nrm .f64 (Op.negFloat .f64 q)) from (FIT0.out false true q h).1))
            have RES := Lib.hid (fun (q r : Nat) (h : nrm .f64 q = angX false (angG true (angM (tI T0 3)))) (hr : nrm .f32 r = nw (nrm .f64 (Op.negFloat .f64 q))) => show nrm .f32 r = angF (nrm .f32 y) (nrm .f32 x) from by
              rw [hr, show nrm .f64 (Op.negFloat .f64 q) = _ from (FIT0.out false true q h).2]; rw [EF.out, hneg, HBX.out])
            clear ht hp
            go_wp2_with (first | (with_reducible refine wpList_fop rfl _ _ _ _ _ rfl rfl .f64 _ _ rfl rfl ?_; intro r m hr; (first | (have _u := hq3; have hq4 := hr) | (have _u := hq2; have hq3 := hr) | (have _u := hq1; have hq2 := hr) | (have hq1 := hr))) | (with_reducible refine wpList_nar rfl _ rfl _ rfl (FIT.out _ (HQ.out _ _ _ _ hq1 hq2 hq3 hq4)).out ?_; intro r2 mr2 hr2))
            go_ret
            exact ⟨_, rfl, RES.out _ _ (HQ.out _ _ _ _ hq1 hq2 hq3 hq4) hr2, by first | exact HB.out _ | (simp only [World.drewN_drewN]; exact HB.out _)⟩

set_option maxRecDepth 100000 in
set_option maxHeartbeats 800000 in
theorem angT_zero (y x : Nat) (w : World) (fy : fN .f32 (nrm .f32 y) = true) (fx : fN .f32 (nrm .f32 x) = true) (cx0 : fcmp .eql .f32 (nrm .f32 x) 0 = true) (cy0 : fcmp .eql .f32 (nrm .f32 y) 0 = true) : Calls Try.prog 54 #[.float .f32 y, .float .f32 x] w (RetA (angF (nrm .f32 y) (nrm .f32 x)) w) := by
  have n32 := nrm0
  have K := Lib.hid (show nrm .f32 0 = angF (nrm .f32 y) (nrm .f32 x) by unfold angF; rw [cx0, cy0]; exact n32)
  have Hfin := Lib.hid (show allFin [x, y] = true by simp [allFin, finF_iff, fx, fy])
  clear fy fx
  go_enter Try.func54, Try.ntmps54
  go_wp2_with (first | (go_at_call 75; refine (areFinite_impl _ [x, y] _ (rd_two _ x y) (by simp)).mono ?_; rintro e w' ⟨m1, rfl, rfl⟩; rw [Hfin.out]))
  go_ret
  exact ⟨_, rfl, K.out, below_drewN ((Below.refl _ _).alloc (Nat.le_refl _) _) _⟩
theorem angT_impl (y x : Nat) (w : World) (fy : fN .f32 (nrm .f32 y) = true) (fx : fN .f32 (nrm .f32 x) = true) (by_ : A (vN .f32 (nrm .f32 y)) < p2 1023) (bx : A (vN .f32 (nrm .f32 x)) < p2 1023) :
    Calls Try.prog 54 #[.float .f32 y, .float .f32 x] w (RetA (angF (nrm .f32 y) (nrm .f32 x)) w) := by
  have g0 : fN .f32 0 = true := by decide +kernel
  have cx := cmp_eql fx g0
  have cy := cmp_eql fy g0
  have lx := cmp_lss fx g0
  rw [vN0] at cx cy lx
  by_cases hx : vN .f32 (nrm .f32 x) = 0
  · by_cases hy : vN .f32 (nrm .f32 y) = 0
    · exact angT_zero y x w fy fx (by rw [cx]; simp [hx]) (by rw [cy]; simp [hy])
    · have hA := angA_of fy fx by_ bx (.inr hy)
      refine angT_up y x w fy fx by_ bx (by rw [cx]; simp [hx]) (by rw [cy]; simp [hy]) (by rw [lx, hx]; decide) hA ?_
      obtain ⟨w1, w2⟩ := wd_ok fy by_
      obtain ⟨w3, w4⟩ := wd_ok fx bx
      rw [cmp_gtr hA.fa hA.fb, (absW_val w1).2, (absW_val w3).2, w2, w4, hx, A_zero]
      simp only [decide_eq_true_eq]
      have := A_nonneg (vN .f32 (nrm .f32 y))
      refine Rat.lt_of_le_of_ne this (fun h => hy ?_)
      have a1 := le_A (vN .f32 (nrm .f32 y))
      exact Rat.le_antisymm (by grind) (by grind)
  · have hA := angA_of fy fx by_ bx (.inl hx)
    cases hg : fcmp .gtr .f64 (absW (wd (nrm .f32 y))) (absW (wd (nrm .f32 x)))
    · exact angT_low y x w fy fx by_ bx (by rw [cx]; simp [hx]) hA hg
    · exact angT_high y x w fy fx by_ bx (by rw [cx]; simp [hx]) hA hg
set_option maxRecDepth 100000 in
set_option maxHeartbeats 400000 in
theorem angC_impl (z : C2) (w : World) (fz : fC (nc z)) (b1 : A (cv (nc z)).re < p2 1023) (b2 : A (cv (nc z)).im < p2 1023) : Calls Try.prog 31 #[.complex .f32 z.1 z.2] w (RetA (angF (nc z).2 (nc z).1) w) := by
  have H := Lib.hid (fun w1 => angT_impl z.2 z.1 w1 fz.2 fz.1 b2 b1)
  clear fz b1 b2
  go_enter Try.func31, Try.ntmps31
  go_wp2_with fail
  refine (H.out _).mono ?_
  rintro e w' ⟨r, rfl, hr, hb⟩
  have Hr := Lib.hid hr
  have Hb := Lib.hid hb
  clear hr hb
  go_wp2_with fail
  go_ret
  exact ⟨_, rfl, Hr.out, Hb.out⟩
end Go.Proofs.Ytklonahkacikbaa
