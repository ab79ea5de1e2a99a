/- The walks of the sine of turns, of the program and of the reference. Conditions: 'OkY'. -/
import Derived.Test.YtcbaanidbkjmcaaSine
import Derived.Test.YtcbaanidbkjmcaaWiden
import Derived.Laws.BitsAllLaws
import Derived.Deep.LoopGhost
namespace Go.Proofs.Ytcbaanidbkjmcaa
open Go Go.RowKit

theorem andNot_top (y : Nat) (h : y < 9223372036854775808) : bits .andNot .u64 (y : Int) 9223372036854775808 = (y : Int) := by
  have h1 := u64_andNot_nat y 9223372036854775808 (by omega) (by omega)
  rw [show ((9223372036854775808 : Nat) : Int) = 9223372036854775808 from rfl] at h1
  rw [h1]
  congr 1
  have h2 : y &&& (18446744073709551615 - 9223372036854775808) = y % 2 ^ 63 := by
    rw [show (18446744073709551615 - 9223372036854775808 : Nat) = 2 ^ 63 - 1 by decide]
    exact Nat.and_two_pow_sub_one_eq_mod y 63
  rw [h2, Nat.mod_eq_of_lt (by omega)]

theorem abs_pos (y : Nat) (w : World) (h : y < 9223372036854775808) : Calls Try.prog 79 #[.float .f64 y] w fun e w' => e = .returned (.float .f64 y) ∧ w = w' := by
  have hb := run_bits
  have hf := run_frombits
  have Ha := Lib.hid (andNot_top y h)
  clear h
  go_enter Try.func79, Try.ntmps79
  go_wp2
  go_ret
  exact ⟨by simp [Ha.out], rfl⟩

theorem isHuge_small (y : Nat) (w : World) (h : OkY y) : Calls Try.prog 67 #[.float .f64 y] w fun e w' => e = .returned (.bool false) ∧ w = w' := by
  have h1 := h.notHuge
  have H := Lib.hid h.lt
  clear h
  go_enter Try.func67, Try.ntmps67
  go_wp2_with (go_at_call 79; refine (abs_pos _ _ H.out).mono ?_; rintro e w' ⟨rfl, rfl⟩)
  go_ret
  exact ⟨rfl, rfl⟩

theorem trunc_impl (y : Nat) (w : World) (h : isN .f64 y = false) : Calls Try.prog 84 #[.float .f64 y] w fun e w' => e = .returned (.float .f64 (truncI y)) ∧ w = w' := by
  have ht := fun w => run_trunc h w
  clear h
  go_enter Try.func84, Try.ntmps84
  go_wp2
  go_ret
  exact ⟨rfl, rfl⟩

set_option maxRecDepth 100000 in
theorem part_impl (y : Nat) (w : World) (h : OkY y) : Calls Try.prog 80 #[.float .f64 y] w (RetF .f64 (partF y) w) := by
  have hp := h.pos
  have hw := h.whole
  have Hn := Lib.hid h.num
  clear h
  unfold partF at hp
  cases hz : fcmp .eql .f64 (nrm .f64 (truncI y)) (nrm .f64 0)
  · rw [hz, if_neg (by decide)] at hw
    rw [← hw] at hp
    have Hw := Lib.hid hw
    clear hw
    go_enter Try.func80, Try.ntmps80
    go_wp2_with (first | (with_reducible refine wpList_fop rfl _ _ _ _ _ rfl rfl .f64 _ _ rfl rfl ?_; intro r m hr) | (go_at_call 84; refine (trunc_impl _ _ Hn.out).mono ?_; rintro e w' ⟨rfl, rfl⟩))
    go_ret
    exact ⟨_, _, rfl, by rw [hr, Hw.out]; rfl, rfl⟩
  · rw [hz, if_pos rfl] at hw
    rw [← hw] at hp
    have Hw := Lib.hid hw
    clear hw
    go_enter Try.func80, Try.ntmps80
    go_wp2_with (first | (with_reducible refine wpList_fop rfl _ _ _ _ _ rfl rfl .f64 _ _ rfl rfl ?_; intro r m hr) | (go_at_call 84; refine (trunc_impl _ _ Hn.out).mono ?_; rintro e w' ⟨rfl, rfl⟩))
    go_ret
    exact ⟨_, _, rfl, by rw [hr, Hw.out]; rfl, rfl⟩

def PolyRel (u : Nat) (w : World) (p : Value) (wr : World) (j : Nat) : Prop := ∃ pr m, p = .float .f64 pr ∧ nrm .f64 pr = polyS u j ∧ wr = w.drewN m

set_option maxRecDepth 100000 in
set_option maxHeartbeats 400000 in
theorem sine_impl_false_false (y : Nat) (w : World) (h : OkY y) (hA : fcmp .geq .f64 (partF y) (nrm .f64 4602678819172646912) = false) (hB : fcmp .gtr .f64 (partF y) (nrm .f64 4598175219545276416) = false) : Calls Try.prog 68 #[.float .f64 y] w (RetF .f64 (sineF y) w) := by
  have hfin : sineF y = (fop .mul .f64 (fop .mul .f64 (partF y) (nrm .f64 4618760256179416344)) (polyS (fop .mul .f64 (fop .mul .f64 (partF y) (nrm .f64 4618760256179416344)) (fop .mul .f64 (partF y) (nrm .f64 4618760256179416344))) 8)) := by
    have e1 : belowF y = false := hA
    have e2 : foldA y = (partF y) := by simp [foldA, e1]
    have e3 : farF y = false := by unfold farF; rw [e2]; exact hB
    have e4 : foldB y = (partF y) := by simp [foldB, e3, e2]
    simp [sineF, zF, e1, e4]
  have H := Lib.hid hfin
  have Ho := Lib.hid h
  clear h hfin
  go_enter Try.func68, Try.ntmps68
  go_wp2_with (first | (with_reducible refine wpList_fop rfl _ _ _ _ _ rfl rfl .f64 _ _ rfl rfl ?_; intro r m hr) | (go_at_call 80; refine (part_impl _ _ Ho.out).mono ?_; rintro e w' ⟨r, m, rfl, hr, rfl⟩))
  go_loopg [7, 8] 8 (fun g p k wr => ∃ kr, k = .float .f64 kr ∧ nrm .f64 kr = kF (8 - g) ∧ g ≤ 8 ∧ PolyRel (fop .mul .f64 (fop .mul .f64 (partF y) (nrm .f64 4618760256179416344)) (fop .mul .f64 (partF y) (nrm .f64 4618760256179416344))) w p wr (8 - g))
  case atStart => exact ⟨_, rfl, kF_zero, by omega, _, _, rfl, rfl, rfl⟩
  case round =>
    obtain ⟨kr, rfl, hk, hj, pr, m, rfl, hp, rfl⟩ := hrel
    have Hp := Lib.hid hp
    clear hp
    by_cases hlt : 0 < gk
    · obtain ⟨j, rfl⟩ : ∃ j, gk = 8 - j := ⟨8 - gk, by omega⟩
      have hj8 : j < 8 := by omega
      rw [show 8 - (8 - j) = j by omega] at hk Hp
      have ht := kF_test j hj8
      have Hn := Lib.hid (kF_next j hj8)
      have Hc := Lib.hid (kF_const j hj8)
      go_wp2_with (with_reducible refine wpList_fop rfl _ _ _ _ _ rfl rfl .f64 _ _ rfl rfl ?_; intro r m hr)
      go_roundg (8 - (j + 1))
      case measure => omega
      case rel =>
        refine ⟨_, rfl, ?_, by omega, _, _, rfl, ?_, by first | rfl | (simp only [World.drewN_drewN]; rfl)⟩
        · rw [show 8 - (8 - (j + 1)) = j + 1 by omega, ← Hn.out]; simp only [*]
        · rw [show 8 - (8 - (j + 1)) = j + 1 by omega]; simp only [polyS, ← Hc.out, ← Hp.out, *]
    · obtain rfl : gk = 0 := by omega
      have ht := kF_last
      have Hp2 := Lib.hid (show nrm .f64 pr = polyS _ 8 from Hp.out)
      have hk2 : nrm .f64 kr = kF 8 := hk
      clear Hp hk
      go_wp2_with (with_reducible refine wpList_fop rfl _ _ _ _ _ rfl rfl .f64 _ _ rfl rfl ?_; intro r m hr)
      go_ret
      rw [H.out]
      refine ⟨_, _, rfl, ?_, by first | rfl | (simp only [World.drewN_drewN]; rfl)⟩
      simp only [nrm_neg, ← Hp2.out, *]

set_option maxRecDepth 100000 in
set_option maxHeartbeats 400000 in
theorem sine_impl_false_true (y : Nat) (w : World) (h : OkY y) (hA : fcmp .geq .f64 (partF y) (nrm .f64 4602678819172646912) = false) (hB : fcmp .gtr .f64 (partF y) (nrm .f64 4598175219545276416) = true) : Calls Try.prog 68 #[.float .f64 y] w (RetF .f64 (sineF y) w) := by
  have hfin : sineF y = (fop .mul .f64 (fop .mul .f64 (fop .sub .f64 (nrm .f64 4602678819172646912) (partF y)) (nrm .f64 4618760256179416344)) (polyS (fop .mul .f64 (fop .mul .f64 (fop .sub .f64 (nrm .f64 4602678819172646912) (partF y)) (nrm .f64 4618760256179416344)) (fop .mul .f64 (fop .sub .f64 (nrm .f64 4602678819172646912) (partF y)) (nrm .f64 4618760256179416344))) 8)) := by
    have e1 : belowF y = false := hA
    have e2 : foldA y = (partF y) := by simp [foldA, e1]
    have e3 : farF y = true := by unfold farF; rw [e2]; exact hB
    have e4 : foldB y = (fop .sub .f64 (nrm .f64 4602678819172646912) (partF y)) := by simp [foldB, e3, e2]
    simp [sineF, zF, e1, e4]
  have H := Lib.hid hfin
  have Ho := Lib.hid h
  clear h hfin
  go_enter Try.func68, Try.ntmps68
  go_wp2_with (first | (with_reducible refine wpList_fop rfl _ _ _ _ _ rfl rfl .f64 _ _ rfl rfl ?_; intro r m hr) | (go_at_call 80; refine (part_impl _ _ Ho.out).mono ?_; rintro e w' ⟨r, m, rfl, hr, rfl⟩))
  go_loopg [7, 8] 8 (fun g p k wr => ∃ kr, k = .float .f64 kr ∧ nrm .f64 kr = kF (8 - g) ∧ g ≤ 8 ∧ PolyRel (fop .mul .f64 (fop .mul .f64 (fop .sub .f64 (nrm .f64 4602678819172646912) (partF y)) (nrm .f64 4618760256179416344)) (fop .mul .f64 (fop .sub .f64 (nrm .f64 4602678819172646912) (partF y)) (nrm .f64 4618760256179416344))) w p wr (8 - g))
  case atStart => exact ⟨_, rfl, kF_zero, by omega, _, _, rfl, rfl, rfl⟩
  case round =>
    obtain ⟨kr, rfl, hk, hj, pr, m, rfl, hp, rfl⟩ := hrel
    have Hp := Lib.hid hp
    clear hp
    by_cases hlt : 0 < gk
    · obtain ⟨j, rfl⟩ : ∃ j, gk = 8 - j := ⟨8 - gk, by omega⟩
      have hj8 : j < 8 := by omega
      rw [show 8 - (8 - j) = j by omega] at hk Hp
      have ht := kF_test j hj8
      have Hn := Lib.hid (kF_next j hj8)
      have Hc := Lib.hid (kF_const j hj8)
      go_wp2_with (with_reducible refine wpList_fop rfl _ _ _ _ _ rfl rfl .f64 _ _ rfl rfl ?_; intro r m hr)
      go_roundg (8 - (j + 1))
      case measure => omega
      case rel =>
        refine ⟨_, rfl, ?_, by omega, _, _, rfl, ?_, by first | rfl | (simp only [World.drewN_drewN]; rfl)⟩
        · rw [show 8 - (8 - (j + 1)) = j + 1 by omega, ← Hn.out]; simp only [*]
        · rw [show 8 - (8 - (j + 1)) = j + 1 by omega]; simp only [polyS, ← Hc.out, ← Hp.out, *]
    · obtain rfl : gk = 0 := by omega
      have ht := kF_last
      have Hp2 := Lib.hid (show nrm .f64 pr = polyS _ 8 from Hp.out)
      have hk2 : nrm .f64 kr = kF 8 := hk
      clear Hp hk
      go_wp2_with (with_reducible refine wpList_fop rfl _ _ _ _ _ rfl rfl .f64 _ _ rfl rfl ?_; intro r m hr)
      go_ret
      rw [H.out]
      refine ⟨_, _, rfl, ?_, by first | rfl | (simp only [World.drewN_drewN]; rfl)⟩
      simp only [nrm_neg, ← Hp2.out, *]

set_option maxRecDepth 100000 in
set_option maxHeartbeats 400000 in
theorem sine_impl_true_false (y : Nat) (w : World) (h : OkY y) (hA : fcmp .geq .f64 (partF y) (nrm .f64 4602678819172646912) = true) (hB : fcmp .gtr .f64 (fop .sub .f64 (partF y) (nrm .f64 4602678819172646912)) (nrm .f64 4598175219545276416) = false) : Calls Try.prog 68 #[.float .f64 y] w (RetF .f64 (sineF y) w) := by
  have hfin : sineF y = (negF .f64 (fop .mul .f64 (fop .mul .f64 (fop .sub .f64 (partF y) (nrm .f64 4602678819172646912)) (nrm .f64 4618760256179416344)) (polyS (fop .mul .f64 (fop .mul .f64 (fop .sub .f64 (partF y) (nrm .f64 4602678819172646912)) (nrm .f64 4618760256179416344)) (fop .mul .f64 (fop .sub .f64 (partF y) (nrm .f64 4602678819172646912)) (nrm .f64 4618760256179416344))) 8))) := by
    have e1 : belowF y = true := hA
    have e2 : foldA y = (fop .sub .f64 (partF y) (nrm .f64 4602678819172646912)) := by simp [foldA, e1]
    have e3 : farF y = false := by unfold farF; rw [e2]; exact hB
    have e4 : foldB y = (fop .sub .f64 (partF y) (nrm .f64 4602678819172646912)) := by simp [foldB, e3, e2]
    simp [sineF, zF, e1, e4]
  have H := Lib.hid hfin
  have Ho := Lib.hid h
  clear h hfin
  go_enter Try.func68, Try.ntmps68
  go_wp2_with (first | (with_reducible refine wpList_fop rfl _ _ _ _ _ rfl rfl .f64 _ _ rfl rfl ?_; intro r m hr) | (go_at_call 80; refine (part_impl _ _ Ho.out).mono ?_; rintro e w' ⟨r, m, rfl, hr, rfl⟩))
  go_loopg [7, 8] 8 (fun g p k wr => ∃ kr, k = .float .f64 kr ∧ nrm .f64 kr = kF (8 - g) ∧ g ≤ 8 ∧ PolyRel (fop .mul .f64 (fop .mul .f64 (fop .sub .f64 (partF y) (nrm .f64 4602678819172646912)) (nrm .f64 4618760256179416344)) (fop .mul .f64 (fop .sub .f64 (partF y) (nrm .f64 4602678819172646912)) (nrm .f64 4618760256179416344))) w p wr (8 - g))
  case atStart => exact ⟨_, rfl, kF_zero, by omega, _, _, rfl, rfl, rfl⟩
  case round =>
    obtain ⟨kr, rfl, hk, hj, pr, m, rfl, hp, rfl⟩ := hrel
    have Hp := Lib.hid hp
    clear hp
    by_cases hlt : 0 < gk
    · obtain ⟨j, rfl⟩ : ∃ j, gk = 8 - j := ⟨8 - gk, by omega⟩
      have hj8 : j < 8 := by omega
      rw [show 8 - (8 - j) = j by omega] at hk Hp
      have ht := kF_test j hj8
      have Hn := Lib.hid (kF_next j hj8)
      have Hc := Lib.hid (kF_const j hj8)
      go_wp2_with (with_reducible refine wpList_fop rfl _ _ _ _ _ rfl rfl .f64 _ _ rfl rfl ?_; intro r m hr)
      go_roundg (8 - (j + 1))
      case measure => omega
      case rel =>
        refine ⟨_, rfl, ?_, by omega, _, _, rfl, ?_, by first | rfl | (simp only [World.drewN_drewN]; rfl)⟩
        · rw [show 8 - (8 - (j + 1)) = j + 1 by omega, ← Hn.out]; simp only [*]
        · rw [show 8 - (8 - (j + 1)) = j + 1 by omega]; simp only [polyS, ← Hc.out, ← Hp.out, *]
    · obtain rfl : gk = 0 := by omega
      have ht := kF_last
      have Hp2 := Lib.hid (show nrm .f64 pr = polyS _ 8 from Hp.out)
      have hk2 : nrm .f64 kr = kF 8 := hk
      clear Hp hk
      go_wp2_with (with_reducible refine wpList_fop rfl _ _ _ _ _ rfl rfl .f64 _ _ rfl rfl ?_; intro r m hr)
      go_ret
      rw [H.out]
      refine ⟨_, _, rfl, ?_, by first | rfl | (simp only [World.drewN_drewN]; rfl)⟩
      simp only [nrm_neg, ← Hp2.out, *]

set_option maxRecDepth 100000 in
set_option maxHeartbeats 400000 in
theorem sine_impl_true_true (y : Nat) (w : World) (h : OkY y) (hA : fcmp .geq .f64 (partF y) (nrm .f64 4602678819172646912) = true) (hB : fcmp .gtr .f64 (fop .sub .f64 (partF y) (nrm .f64 4602678819172646912)) (nrm .f64 4598175219545276416) = true) : Calls Try.prog 68 #[.float .f64 y] w (RetF .f64 (sineF y) w) := by
  have hfin : sineF y = (negF .f64 (fop .mul .f64 (fop .mul .f64 (fop .sub .f64 (nrm .f64 4602678819172646912) (fop .sub .f64 (partF y) (nrm .f64 4602678819172646912))) (nrm .f64 4618760256179416344)) (polyS (fop .mul .f64 (fop .mul .f64 (fop .sub .f64 (nrm .f64 4602678819172646912) (fop .sub .f64 (partF y) (nrm .f64 4602678819172646912))) (nrm .f64 4618760256179416344)) (fop .mul .f64 (fop .sub .f64 (nrm .f64 4602678819172646912) (fop .sub .f64 (partF y) (nrm .f64 4602678819172646912))) (nrm .f64 4618760256179416344))) 8))) := by
    have e1 : belowF y = true := hA
    have e2 : foldA y = (fop .sub .f64 (partF y) (nrm .f64 4602678819172646912)) := by simp [foldA, e1]
    have e3 : farF y = true := by unfold farF; rw [e2]; exact hB
    have e4 : foldB y = (fop .sub .f64 (nrm .f64 4602678819172646912) (fop .sub .f64 (partF y) (nrm .f64 4602678819172646912))) := by simp [foldB, e3, e2]
    simp [sineF, zF, e1, e4]
  have H := Lib.hid hfin
  have Ho := Lib.hid h
  clear h hfin
  go_enter Try.func68, Try.ntmps68
  go_wp2_with (first | (with_reducible refine wpList_fop rfl _ _ _ _ _ rfl rfl .f64 _ _ rfl rfl ?_; intro r m hr) | (go_at_call 80; refine (part_impl _ _ Ho.out).mono ?_; rintro e w' ⟨r, m, rfl, hr, rfl⟩))
  go_loopg [7, 8] 8 (fun g p k wr => ∃ kr, k = .float .f64 kr ∧ nrm .f64 kr = kF (8 - g) ∧ g ≤ 8 ∧ PolyRel (fop .mul .f64 (fop .mul .f64 (fop .sub .f64 (nrm .f64 4602678819172646912) (fop .sub .f64 (partF y) (nrm .f64 4602678819172646912))) (nrm .f64 4618760256179416344)) (fop .mul .f64 (fop .sub .f64 (nrm .f64 4602678819172646912) (fop .sub .f64 (partF y) (nrm .f64 4602678819172646912))) (nrm .f64 4618760256179416344))) w p wr (8 - g))
  case atStart => exact ⟨_, rfl, kF_zero, by omega, _, _, rfl, rfl, rfl⟩
  case round =>
    obtain ⟨kr, rfl, hk, hj, pr, m, rfl, hp, rfl⟩ := hrel
    have Hp := Lib.hid hp
    clear hp
    by_cases hlt : 0 < gk
    · obtain ⟨j, rfl⟩ : ∃ j, gk = 8 - j := ⟨8 - gk, by omega⟩
      have hj8 : j < 8 := by omega
      rw [show 8 - (8 - j) = j by omega] at hk Hp
      have ht := kF_test j hj8
      have Hn := Lib.hid (kF_next j hj8)
      have Hc := Lib.hid (kF_const j hj8)
      go_wp2_with (with_reducible refine wpList_fop rfl _ _ _ _ _ rfl rfl .f64 _ _ rfl rfl ?_; intro r m hr)
      go_roundg (8 - (j + 1))
      case measure => omega
      case rel =>
        refine ⟨_, rfl, ?_, by omega, _, _, rfl, ?_, by first | rfl | (simp only [World.drewN_drewN]; rfl)⟩
        · rw [show 8 - (8 - (j + 1)) = j + 1 by omega, ← Hn.out]; simp only [*]
        · rw [show 8 - (8 - (j + 1)) = j + 1 by omega]; simp only [polyS, ← Hc.out, ← Hp.out, *]
    · obtain rfl : gk = 0 := by omega
      have ht := kF_last
      have Hp2 := Lib.hid (show nrm .f64 pr = polyS _ 8 from Hp.out)
      have hk2 : nrm .f64 kr = kF 8 := hk
      clear Hp hk
      go_wp2_with (with_reducible refine wpList_fop rfl _ _ _ _ _ rfl rfl .f64 _ _ rfl rfl ?_; intro r m hr)
      go_ret
      rw [H.out]
      refine ⟨_, _, rfl, ?_, by first | rfl | (simp only [World.drewN_drewN]; rfl)⟩
      simp only [nrm_neg, ← Hp2.out, *]

end Go.Proofs.Ytcbaanidbkjmcaa
