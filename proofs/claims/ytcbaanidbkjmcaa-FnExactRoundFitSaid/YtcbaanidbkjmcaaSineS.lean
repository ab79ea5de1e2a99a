/- The walk of the reference's sine of turns; the sine of both in single precision. Conditions: 'OkY'. -/
import Derived.Test.YtcbaanidbkjmcaaSineW
namespace Go.Proofs.Ytcbaanidbkjmcaa
open Go Go.RowKit

theorem wrap_const : ∀ c : Nat, c < 9 → IntKind.i64.wrap (2 * (c : Int) * (2 * (c : Int) + 1)) = ((2 * c * (2 * c + 1) : Nat) : Int) := by decide
theorem cK_of : ∀ c : Nat, c < 9 → nrm .f64 (floatOfInt .f64 ((2 * c * (2 * c + 1) : Nat) : Int)) = cK (8 - c) := by decide +kernel

set_option maxRecDepth 100000 in
set_option maxHeartbeats 400000 in
theorem sine_spec_false_false (y : Nat) (w : World) (h : OkY y) (hA : fcmp .geq .f64 (partF y) (nrm .f64 4602678819172646912) = false) (hB : fcmp .gtr .f64 (partF y) (nrm .f64 4598175219545276416) = false) : Calls Try.prog 65 #[.float .f64 y] w (RetF .f64 (sineF y) w) := by
  have hfin : sineF y = (fop .mul .f64 (fop .mul .f64 (partF y) (nrm .f64 4618760256179416344)) (polyS (fop .mul .f64 (fop .mul .f64 (partF y) (nrm .f64 4618760256179416344)) (fop .mul .f64 (partF y) (nrm .f64 4618760256179416344))) 8)) := by
    have e1 : belowF y = false := hA
    have e2 : foldA y = (partF y) := by simp [foldA, e1]
    have e3 : farF y = false := by unfold farF; rw [e2]; exact hB
    have e4 : foldB y = (partF y) := by simp [foldB, e3, e2]
    simp [sineF, zF, e1, e4]
  have H := Lib.hid hfin
  have f1 := h.notHuge
  have f2 := h.notLow
  have f3 := h.fin
  have f4 := h.pos
  have hcv : ∀ w, (convert 26 2 (.float .f64 y)).run Try.prog w = .ok (.int .i64 (intY y)) w := fun w => run_convert_float_int w _ _ .f64 .i64 y _ (by rw [Try.underlying26]; rfl) Try.underlying2 h.int
  have hpart : fop .sub .f64 (nrm .f64 y) (nrm .f64 (floatOfInt .f64 (intY y))) = partF y := rfl
  clear h hfin
  go_enter Try.func65, Try.ntmps65
  go_wp2_with (first | (with_reducible refine wpList_fop rfl _ _ _ _ _ rfl rfl .f64 _ _ rfl rfl ?_; intro r m hr))
  go_loopg [7, 8] 8 (fun g p k wr => k = .int .i64 (g : Int) ∧ g ≤ 8 ∧ PolyRel (fop .mul .f64 (fop .mul .f64 (partF y) (nrm .f64 4618760256179416344)) (fop .mul .f64 (partF y) (nrm .f64 4618760256179416344))) w p wr (8 - g))
  case atStart => exact ⟨rfl, by omega, _, _, rfl, rfl, rfl⟩
  case round =>
    obtain ⟨rfl, hj, pr, m, rfl, hp, rfl⟩ := hrel
    have Hp := Lib.hid hp
    clear hp
    by_cases hlt : 0 < gk
    · obtain ⟨c, rfl⟩ : ∃ c, gk = c + 1 := ⟨gk - 1, by omega⟩
      have hw := wrap_const (c + 1) (by omega)
      have Hc := Lib.hid (cK_of (c + 1) (by omega))
      have Hs := Lib.hid (show 8 - c = (8 - (c + 1)) + 1 by omega)
      have hw2 : IntKind.i64.wrap (2 * ((c : Int) + 1) * (2 * ((c : Int) + 1) + 1)) = ((2 * (c + 1) * (2 * (c + 1) + 1) : Nat) : Int) := hw
      clear hw
      generalize hD : ((2 * (c + 1) * (2 * (c + 1) + 1) : Nat) : Int) = D at *
      have HD := Lib.hid hD
      clear hD
      go_wp2_with (with_reducible refine wpList_fop rfl _ _ _ _ _ rfl rfl .f64 _ _ rfl rfl ?_; intro r m hr)
      go_roundg c
      case measure => omega
      case rel =>
        refine ⟨by first | rfl | go_num, by omega, _, _, rfl, ?_, by first | rfl | (simp only [World.drewN_drewN]; rfl)⟩
        rw [Hs.out]; simp only [polyS, ← Hc.out, ← Hp.out, *]
    · obtain rfl : gk = 0 := by omega
      have Hp2 := Lib.hid (show nrm .f64 pr = polyS _ 8 from Hp.out)
      clear Hp
      go_wp2_with (with_reducible refine wpList_fop rfl _ _ _ _ _ rfl rfl .f64 _ _ rfl rfl ?_; intro r m hr)
      go_ret
      rw [H.out]
      refine ⟨_, _, rfl, ?_, by first | rfl | (simp only [World.drewN_drewN]; rfl)⟩
      simp only [nrm_neg, ← Hp2.out, *]

set_option maxRecDepth 100000 in
set_option maxHeartbeats 400000 in
theorem sine_spec_false_true (y : Nat) (w : World) (h : OkY y) (hA : fcmp .geq .f64 (partF y) (nrm .f64 4602678819172646912) = false) (hB : fcmp .gtr .f64 (partF y) (nrm .f64 4598175219545276416) = true) : Calls Try.prog 65 #[.float .f64 y] w (RetF .f64 (sineF y) w) := by
  have hfin : sineF y = (fop .mul .f64 (fop .mul .f64 (fop .sub .f64 (nrm .f64 4602678819172646912) (partF y)) (nrm .f64 4618760256179416344)) (polyS (fop .mul .f64 (fop .mul .f64 (fop .sub .f64 (nrm .f64 4602678819172646912) (partF y)) (nrm .f64 4618760256179416344)) (fop .mul .f64 (fop .sub .f64 (nrm .f64 4602678819172646912) (partF y)) (nrm .f64 4618760256179416344))) 8)) := by
    have e1 : belowF y = false := hA
    have e2 : foldA y = (partF y) := by simp [foldA, e1]
    have e3 : farF y = true := by unfold farF; rw [e2]; exact hB
    have e4 : foldB y = (fop .sub .f64 (nrm .f64 4602678819172646912) (partF y)) := by simp [foldB, e3, e2]
    simp [sineF, zF, e1, e4]
  have H := Lib.hid hfin
  have f1 := h.notHuge
  have f2 := h.notLow
  have f3 := h.fin
  have f4 := h.pos
  have hcv : ∀ w, (convert 26 2 (.float .f64 y)).run Try.prog w = .ok (.int .i64 (intY y)) w := fun w => run_convert_float_int w _ _ .f64 .i64 y _ (by rw [Try.underlying26]; rfl) Try.underlying2 h.int
  have hpart : fop .sub .f64 (nrm .f64 y) (nrm .f64 (floatOfInt .f64 (intY y))) = partF y := rfl
  clear h hfin
  go_enter Try.func65, Try.ntmps65
  go_wp2_with (first | (with_reducible refine wpList_fop rfl _ _ _ _ _ rfl rfl .f64 _ _ rfl rfl ?_; intro r m hr))
  go_loopg [7, 8] 8 (fun g p k wr => k = .int .i64 (g : Int) ∧ g ≤ 8 ∧ PolyRel (fop .mul .f64 (fop .mul .f64 (fop .sub .f64 (nrm .f64 4602678819172646912) (partF y)) (nrm .f64 4618760256179416344)) (fop .mul .f64 (fop .sub .f64 (nrm .f64 4602678819172646912) (partF y)) (nrm .f64 4618760256179416344))) w p wr (8 - g))
  case atStart => exact ⟨rfl, by omega, _, _, rfl, rfl, rfl⟩
  case round =>
    obtain ⟨rfl, hj, pr, m, rfl, hp, rfl⟩ := hrel
    have Hp := Lib.hid hp
    clear hp
    by_cases hlt : 0 < gk
    · obtain ⟨c, rfl⟩ : ∃ c, gk = c + 1 := ⟨gk - 1, by omega⟩
      have hw := wrap_const (c + 1) (by omega)
      have Hc := Lib.hid (cK_of (c + 1) (by omega))
      have Hs := Lib.hid (show 8 - c = (8 - (c + 1)) + 1 by omega)
      have hw2 : IntKind.i64.wrap (2 * ((c : Int) + 1) * (2 * ((c : Int) + 1) + 1)) = ((2 * (c + 1) * (2 * (c + 1) + 1) : Nat) : Int) := hw
      clear hw
      generalize hD : ((2 * (c + 1) * (2 * (c + 1) + 1) : Nat) : Int) = D at *
      have HD := Lib.hid hD
      clear hD
      go_wp2_with (with_reducible refine wpList_fop rfl _ _ _ _ _ rfl rfl .f64 _ _ rfl rfl ?_; intro r m hr)
      go_roundg c
      case measure => omega
      case rel =>
        refine ⟨by first | rfl | go_num, by omega, _, _, rfl, ?_, by first | rfl | (simp only [World.drewN_drewN]; rfl)⟩
        rw [Hs.out]; simp only [polyS, ← Hc.out, ← Hp.out, *]
    · obtain rfl : gk = 0 := by omega
      have Hp2 := Lib.hid (show nrm .f64 pr = polyS _ 8 from Hp.out)
      clear Hp
      go_wp2_with (with_reducible refine wpList_fop rfl _ _ _ _ _ rfl rfl .f64 _ _ rfl rfl ?_; intro r m hr)
      go_ret
      rw [H.out]
      refine ⟨_, _, rfl, ?_, by first | rfl | (simp only [World.drewN_drewN]; rfl)⟩
      simp only [nrm_neg, ← Hp2.out, *]

set_option maxRecDepth 100000 in
set_option maxHeartbeats 400000 in
theorem sine_spec_true_false (y : Nat) (w : World) (h : OkY y) (hA : fcmp .geq .f64 (partF y) (nrm .f64 4602678819172646912) = true) (hB : fcmp .gtr .f64 (fop .sub .f64 (partF y) (nrm .f64 4602678819172646912)) (nrm .f64 4598175219545276416) = false) : Calls Try.prog 65 #[.float .f64 y] w (RetF .f64 (sineF y) w) := by
  have hfin : sineF y = (negF .f64 (fop .mul .f64 (fop .mul .f64 (fop .sub .f64 (partF y) (nrm .f64 4602678819172646912)) (nrm .f64 4618760256179416344)) (polyS (fop .mul .f64 (fop .mul .f64 (fop .sub .f64 (partF y) (nrm .f64 4602678819172646912)) (nrm .f64 4618760256179416344)) (fop .mul .f64 (fop .sub .f64 (partF y) (nrm .f64 4602678819172646912)) (nrm .f64 4618760256179416344))) 8))) := by
    have e1 : belowF y = true := hA
    have e2 : foldA y = (fop .sub .f64 (partF y) (nrm .f64 4602678819172646912)) := by simp [foldA, e1]
    have e3 : farF y = false := by unfold farF; rw [e2]; exact hB
    have e4 : foldB y = (fop .sub .f64 (partF y) (nrm .f64 4602678819172646912)) := by simp [foldB, e3, e2]
    simp [sineF, zF, e1, e4]
  have H := Lib.hid hfin
  have f1 := h.notHuge
  have f2 := h.notLow
  have f3 := h.fin
  have f4 := h.pos
  have hcv : ∀ w, (convert 26 2 (.float .f64 y)).run Try.prog w = .ok (.int .i64 (intY y)) w := fun w => run_convert_float_int w _ _ .f64 .i64 y _ (by rw [Try.underlying26]; rfl) Try.underlying2 h.int
  have hpart : fop .sub .f64 (nrm .f64 y) (nrm .f64 (floatOfInt .f64 (intY y))) = partF y := rfl
  clear h hfin
  go_enter Try.func65, Try.ntmps65
  go_wp2_with (first | (with_reducible refine wpList_fop rfl _ _ _ _ _ rfl rfl .f64 _ _ rfl rfl ?_; intro r m hr))
  go_loopg [7, 8] 8 (fun g p k wr => k = .int .i64 (g : Int) ∧ g ≤ 8 ∧ PolyRel (fop .mul .f64 (fop .mul .f64 (fop .sub .f64 (partF y) (nrm .f64 4602678819172646912)) (nrm .f64 4618760256179416344)) (fop .mul .f64 (fop .sub .f64 (partF y) (nrm .f64 4602678819172646912)) (nrm .f64 4618760256179416344))) w p wr (8 - g))
  case atStart => exact ⟨rfl, by omega, _, _, rfl, rfl, rfl⟩
  case round =>
    obtain ⟨rfl, hj, pr, m, rfl, hp, rfl⟩ := hrel
    have Hp := Lib.hid hp
    clear hp
    by_cases hlt : 0 < gk
    · obtain ⟨c, rfl⟩ : ∃ c, gk = c + 1 := ⟨gk - 1, by omega⟩
      have hw := wrap_const (c + 1) (by omega)
      have Hc := Lib.hid (cK_of (c + 1) (by omega))
      have Hs := Lib.hid (show 8 - c = (8 - (c + 1)) + 1 by omega)
      have hw2 : IntKind.i64.wrap (2 * ((c : Int) + 1) * (2 * ((c : Int) + 1) + 1)) = ((2 * (c + 1) * (2 * (c + 1) + 1) : Nat) : Int) := hw
      clear hw
      generalize hD : ((2 * (c + 1) * (2 * (c + 1) + 1) : Nat) : Int) = D at *
      have HD := Lib.hid hD
      clear hD
      go_wp2_with (with_reducible refine wpList_fop rfl _ _ _ _ _ rfl rfl .f64 _ _ rfl rfl ?_; intro r m hr)
      go_roundg c
      case measure => omega
      case rel =>
        refine ⟨by first | rfl | go_num, by omega, _, _, rfl, ?_, by first | rfl | (simp only [World.drewN_drewN]; rfl)⟩
        rw [Hs.out]; simp only [polyS, ← Hc.out, ← Hp.out, *]
    · obtain rfl : gk = 0 := by omega
      have Hp2 := Lib.hid (show nrm .f64 pr = polyS _ 8 from Hp.out)
      clear Hp
      go_wp2_with (with_reducible refine wpList_fop rfl _ _ _ _ _ rfl rfl .f64 _ _ rfl rfl ?_; intro r m hr)
      go_ret
      rw [H.out]
      refine ⟨_, _, rfl, ?_, by first | rfl | (simp only [World.drewN_drewN]; rfl)⟩
      simp only [nrm_neg, ← Hp2.out, *]

set_option maxRecDepth 100000 in
set_option maxHeartbeats 400000 in
theorem sine_spec_true_true (y : Nat) (w : World) (h : OkY y) (hA : fcmp .geq .f64 (partF y) (nrm .f64 4602678819172646912) = true) (hB : fcmp .gtr .f64 (fop .sub .f64 (partF y) (nrm .f64 4602678819172646912)) (nrm .f64 4598175219545276416) = true) : Calls Try.prog 65 #[.float .f64 y] w (RetF .f64 (sineF y) w) := by
  have hfin : sineF y = (negF .f64 (fop .mul .f64 (fop .mul .f64 (fop .sub .f64 (nrm .f64 4602678819172646912) (fop .sub .f64 (partF y) (nrm .f64 4602678819172646912))) (nrm .f64 4618760256179416344)) (polyS (fop .mul .f64 (fop .mul .f64 (fop .sub .f64 (nrm .f64 4602678819172646912) (fop .sub .f64 (partF y) (nrm .f64 4602678819172646912))) (nrm .f64 4618760256179416344)) (fop .mul .f64 (fop .sub .f64 (nrm .f64 4602678819172646912) (fop .sub .f64 (partF y) (nrm .f64 4602678819172646912))) (nrm .f64 4618760256179416344))) 8))) := by
    have e1 : belowF y = true := hA
    have e2 : foldA y = (fop .sub .f64 (partF y) (nrm .f64 4602678819172646912)) := by simp [foldA, e1]
    have e3 : farF y = true := by unfold farF; rw [e2]; exact hB
    have e4 : foldB y = (fop .sub .f64 (nrm .f64 4602678819172646912) (fop .sub .f64 (partF y) (nrm .f64 4602678819172646912))) := by simp [foldB, e3, e2]
    simp [sineF, zF, e1, e4]
  have H := Lib.hid hfin
  have f1 := h.notHuge
  have f2 := h.notLow
  have f3 := h.fin
  have f4 := h.pos
  have hcv : ∀ w, (convert 26 2 (.float .f64 y)).run Try.prog w = .ok (.int .i64 (intY y)) w := fun w => run_convert_float_int w _ _ .f64 .i64 y _ (by rw [Try.underlying26]; rfl) Try.underlying2 h.int
  have hpart : fop .sub .f64 (nrm .f64 y) (nrm .f64 (floatOfInt .f64 (intY y))) = partF y := rfl
  clear h hfin
  go_enter Try.func65, Try.ntmps65
  go_wp2_with (first | (with_reducible refine wpList_fop rfl _ _ _ _ _ rfl rfl .f64 _ _ rfl rfl ?_; intro r m hr))
  go_loopg [7, 8] 8 (fun g p k wr => k = .int .i64 (g : Int) ∧ g ≤ 8 ∧ PolyRel (fop .mul .f64 (fop .mul .f64 (fop .sub .f64 (nrm .f64 4602678819172646912) (fop .sub .f64 (partF y) (nrm .f64 4602678819172646912))) (nrm .f64 4618760256179416344)) (fop .mul .f64 (fop .sub .f64 (nrm .f64 4602678819172646912) (fop .sub .f64 (partF y) (nrm .f64 4602678819172646912))) (nrm .f64 4618760256179416344))) w p wr (8 - g))
  case atStart => exact ⟨rfl, by omega, _, _, rfl, rfl, rfl⟩
  case round =>
    obtain ⟨rfl, hj, pr, m, rfl, hp, rfl⟩ := hrel
    have Hp := Lib.hid hp
    clear hp
    by_cases hlt : 0 < gk
    · obtain ⟨c, rfl⟩ : ∃ c, gk = c + 1 := ⟨gk - 1, by omega⟩
      have hw := wrap_const (c + 1) (by omega)
      have Hc := Lib.hid (cK_of (c + 1) (by omega))
      have Hs := Lib.hid (show 8 - c = (8 - (c + 1)) + 1 by omega)
      have hw2 : IntKind.i64.wrap (2 * ((c : Int) + 1) * (2 * ((c : Int) + 1) + 1)) = ((2 * (c + 1) * (2 * (c + 1) + 1) : Nat) : Int) := hw
      clear hw
      generalize hD : ((2 * (c + 1) * (2 * (c + 1) + 1) : Nat) : Int) = D at *
      have HD := Lib.hid hD
      clear hD
      go_wp2_with (with_reducible refine wpList_fop rfl _ _ _ _ _ rfl rfl .f64 _ _ rfl rfl ?_; intro r m hr)
      go_roundg c
      case measure => omega
      case rel =>
        refine ⟨by first | rfl | go_num, by omega, _, _, rfl, ?_, by first | rfl | (simp only [World.drewN_drewN]; rfl)⟩
        rw [Hs.out]; simp only [polyS, ← Hc.out, ← Hp.out, *]
    · obtain rfl : gk = 0 := by omega
      have Hp2 := Lib.hid (show nrm .f64 pr = polyS _ 8 from Hp.out)
      clear Hp
      go_wp2_with (with_reducible refine wpList_fop rfl _ _ _ _ _ rfl rfl .f64 _ _ rfl rfl ?_; intro r m hr)
      go_ret
      rw [H.out]
      refine ⟨_, _, rfl, ?_, by first | rfl | (simp only [World.drewN_drewN]; rfl)⟩
      simp only [nrm_neg, ← Hp2.out, *]

theorem sine_impl (y : Nat) (w : World) (h : OkY y) : Calls Try.prog 68 #[.float .f64 y] w (RetF .f64 (sineF y) w) := by
  cases hA : fcmp .geq .f64 (partF y) (nrm .f64 4602678819172646912)
  · cases hB : fcmp .gtr .f64 (partF y) (nrm .f64 4598175219545276416)
    · exact sine_impl_false_false y w h hA hB
    · exact sine_impl_false_true y w h hA hB
  · cases hB : fcmp .gtr .f64 (fop .sub .f64 (partF y) (nrm .f64 4602678819172646912)) (nrm .f64 4598175219545276416)
    · exact sine_impl_true_false y w h hA hB
    · exact sine_impl_true_true y w h hA hB

theorem sine_spec (y : Nat) (w : World) (h : OkY y) : Calls Try.prog 65 #[.float .f64 y] w (RetF .f64 (sineF y) w) := by
  cases hA : fcmp .geq .f64 (partF y) (nrm .f64 4602678819172646912)
  · cases hB : fcmp .gtr .f64 (partF y) (nrm .f64 4598175219545276416)
    · exact sine_spec_false_false y w h hA hB
    · exact sine_spec_false_true y w h hA hB
  · cases hB : fcmp .gtr .f64 (fop .sub .f64 (partF y) (nrm .f64 4602678819172646912)) (nrm .f64 4598175219545276416)
    · exact sine_spec_true_false y w h hA hB
    · exact sine_spec_true_true y w h hA hB

/-- A float32 as a float64. -/
def widF (x : Nat) : Nat := nrm .f64 (fcvt .f32 .f64 (nrm .f32 x))
/-- The sine, narrowed. -/
def sineN (x : Nat) : Nat := nrm .f32 (fcvt .f64 .f32 (sineF (widF x)))
def okX (x : Nat) : Bool := !isN .f32 x && finF (nrm .f32 x) && !isN .f64 (widF x) && okY (widF x) && !isN .f64 (sineF (widF x))

theorem nrm_sineF (y : Nat) : nrm .f64 (sineF y) = sineF y := by
  unfold sineF
  dsimp only
  split
  · exact nrm_nrm _ _
  · exact nrm_fop _ _ _ _

theorem sineTurns_impl (x : Nat) (w : World) (h : okX x = true) : Calls Try.prog 52 #[.float .f32 x] w (RetF .f32 (sineN x) w) := by
  simp only [okX, Bool.and_eq_true, Bool.not_eq_true'] at h
  obtain ⟨⟨⟨⟨h1, h2⟩, h3⟩, h4⟩, h5⟩ := h
  have Hy := Lib.hid (OkY.of h4)
  have H3 := Lib.hid h3
  have Hx : ∀ r, nrm .f64 r = nrm .f64 (fcvt .f32 .f64 (nrm .f32 x)) → r = widF x := fun r hr => exact_of hr H3.out
  have HX := Lib.hid Hx
  clear h1 h3 h4 h5 Hx
  go_enter Try.func52, Try.ntmps52
  go_wp2_with (first | (go_at_call 39; refine (isFinite_impl _ _).mono ?_; rintro e w' ⟨m, rfl, rfl⟩) | ((with_reducible refine wpList_fcvtg _ _ _ rfl .f32 .f64 _ ?_ Try.underlying26 rfl (fits_widen _) ?_ ?_); (rw [Try.underlying22]; rfl); exact rfl; intro r m hr; obtain rfl := HX.out _ hr; clear hr) | (go_at_call 67; refine (isHuge_small _ _ Hy.out).mono ?_; rintro e w' ⟨rfl, rfl⟩) | (go_at_call 68; refine (sine_impl _ _ Hy.out).mono ?_; rintro e w' ⟨rs, ms, rfl, hs, rfl⟩) | ((with_reducible refine wpList_fcvtg _ _ _ rfl .f64 .f32 _ ?_ Try.underlying22 rfl ?_ ?_ ?_); (rw [Try.underlying26]; rfl); (rw [hs]; exact Hy.out.fit); exact rfl; intro r m hr))
  go_ret
  exact ⟨_, _, rfl, by rw [hr, hs]; rfl, rfl⟩

theorem narrow_spec (y : Nat) (w : World) (h : fits .f64 .f32 (nrm .f64 y) = true) : Calls Try.prog 64 #[.float .f64 y] w (RetF .f32 (nrm .f32 (fcvt .f64 .f32 (nrm .f64 y))) w) := by
  have H := Lib.hid h
  clear h
  go_enter Try.func64, Try.ntmps64
  go_wp2_with ((with_reducible refine wpList_fcvtg _ _ _ rfl .f64 .f32 _ ?_ Try.underlying22 rfl ?_ ?_ ?_); (rw [Try.underlying26]; rfl); (exact H.out); exact rfl; intro r m hr)
  go_ret
  exact ⟨_, _, rfl, hr, rfl⟩

/-- The quotient of two numbers, moved by a quarter of a turn. -/
def turnF (a b : Nat) : Nat := fop .add .f32 (fop .quo .f32 (nrm .f32 a) (nrm .f32 b)) (nrm .f32 1048576000)

set_option maxHeartbeats 400000 in
theorem cosine_spec (a b : Nat) (w : World) (h : okX (turnF a b) = true) : Calls Try.prog 49 #[.float .f32 a, .float .f32 b] w (RetF .f32 (sineN (turnF a b)) w) := by
  have h0 := h
  simp only [okX, Bool.and_eq_true, Bool.not_eq_true'] at h0
  obtain ⟨⟨⟨⟨h1, h2⟩, h3⟩, h4⟩, h5⟩ := h0
  have Hy := Lib.hid (OkY.of h4)
  have Hx : ∀ r, nrm .f64 r = nrm .f64 (fcvt .f32 .f64 (turnF a b)) → r = widF (turnF a b) := fun r hr => by
    refine exact_of (k := .f64) ?_ h3
    rw [hr]; unfold widF; rw [nrm_of_not h1]
  have HX := Lib.hid Hx
  clear h h1 h2 h3 h4 h5 Hx
  go_enter Try.func49, Try.ntmps49
  go_wp2_with (first | (with_reducible refine wpList_fop rfl _ _ _ _ _ rfl rfl .f32 _ _ rfl rfl ?_; intro r m hr) | ((with_reducible refine wpList_fcvtg _ _ _ rfl .f32 .f64 _ ?_ Try.underlying26 rfl (fits_widen _) ?_ ?_); (rw [Try.underlying22]; rfl); exact rfl; intro r m hr; obtain rfl := HX.out _ (by rw [hr]; simp only [*]; rfl); clear hr) | (go_at_call 65; refine (sine_spec _ _ Hy.out).mono ?_; rintro e w' ⟨rs, ms, rfl, hs, rfl⟩) | (go_at_call 64; refine (narrow_spec _ _ (by rw [hs]; exact Hy.out.fit)).mono ?_; rintro e w' ⟨rn, mn, rfl, hn, rfl⟩))
  go_ret
  exact ⟨_, _, rfl, by rw [hn, hs]; rfl, rfl⟩

end Go.Proofs.Ytcbaanidbkjmcaa
