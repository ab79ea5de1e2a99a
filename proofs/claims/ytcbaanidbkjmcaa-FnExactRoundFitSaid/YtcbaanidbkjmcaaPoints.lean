/- Points of a circle seen from the side, of the program and of the reference: the same. Conditions: none. -/
import Derived.Test.YtcbaanidbkjmcaaArgsP
import Derived.Test.YtcbaanidbkjmcaaFamSum
namespace Go.Proofs.Ytcbaanidbkjmcaa
open Go Go.RowKit

theorem sineTurns_at (x T : Nat) (w : World) (hx : nrm .f32 x = T) (h : okX T = true) : Calls Try.prog 52 #[.float .f32 x] w (RetF .f32 (sineN T) w) := by
  have h1 : isN .f32 T = false := by simp only [okX, Bool.and_eq_true, Bool.not_eq_true'] at h; exact h.1.1.1.1
  obtain rfl := exact_of hx h1
  exact sineTurns_impl x w h

theorem argX_cast (n k : Nat) : turnF (floatOfInt .f32 (2 * (k : Int) + 1)) (floatOfInt .f32 (4 * (n : Int))) = argX n 1 k := by
  unfold argX
  rw [Nat.one_mul]
  rfl

def pointsL (n k : Nat) : List Nat := (List.range k).map fun q => sineN (argX n 1 q)
theorem pointsL_succ (n k : Nat) : pointsL n (k + 1) = pointsL n k ++ [sineN (argX n 1 k)] := by simp [pointsL, List.range_succ]
def pointsF (n : Int) : List Nat × Bool := if inB 1 n 17 = true then (pointsL n.toNat n.toNat, true) else ([], false)
theorem pointsF_le (n : Int) : (pointsF n).1.length ≤ 17 := by
  unfold pointsF
  split
  · rename_i h
    rw [inB_true] at h
    simp [pointsL]; omega
  · simp

def PtsRel (n : Nat) (w : World) (v i : Value) (wr : World) : Prop :=
  ∃ (k : Nat) (ss : List Nat), k ≤ n ∧ i = .int .i64 k ∧ ss.length = k ∧ ss.map (nrm .f32) = pointsL n k ∧ wr.ownsRow w.heap.size 22 1 v k (ss.map (Value.float .f32)) ∧ Below w.heap.size w wr

set_option maxRecDepth 100000 in
set_option maxHeartbeats 400000 in
theorem points_impl (n : Nat) (w : World) (hn : n ≤ 17) : Calls Try.prog 50 #[.int .i64 n] w (RetRow (pointsL n n) w) := by
  obtain ⟨i0, hi, hz0, hz1, hz2⟩ := info_parts info22
  go_enter Try.func50, Try.ntmps50
  go_wp2_with fail
  go_loopw [3, 7] (fun u i wr => PtsRel n w u i wr) (fun _ i _ => n - (intOf i).toNat)
  case atStart => exact ⟨0, [], Nat.zero_le _, rfl, by simp, by simp [pointsL], World.ownsRow_lit _ _ _ (by simp) (by decide) rfl, (Below.refl _ _).alloc (Nat.le_refl _) _⟩
  case round =>
    obtain ⟨k, ss, hk, rfl, hss, hval, hown, hbel⟩ := hrel
    by_cases hlt : k < n
    · have hw1 : w.heap.size ≤ wr.heap.size := hbel.size
      have Hok := Lib.hid (show okX (turnF (floatOfInt .f32 (2 * (k : Int) + 1)) (floatOfInt .f32 (4 * (n : Int)))) = true by rw [argX_cast]; exact arg_point (by omega) hlt)
      have Hval := Lib.hid hval
      have Hss := Lib.hid hss
      have Hbel := Lib.hid hbel
      have Ho := Lib.hid hown
      clear hval hss hbel
      have j1 : (0 : Int) ≤ (k : Int) := by omega
      have j2 : (k : Int) ≤ 16 := by omega
      have j3 : (n : Int) ≤ 17 := by omega
      have j4 : (0 : Int) ≤ (n : Int) := by omega
      go_wp2_with (first | (with_reducible refine wpList_fop rfl _ _ _ _ _ rfl rfl .f32 _ _ rfl rfl ?_; intro r0 m hr0) | (go_at_call 52; refine (sineTurns_at _ _ _ (by simp only [*]; rfl) Hok.out).mono ?_; rintro e w' ⟨r, m, rfl, hr, rfl⟩) | (at_builtin; (refine wpList_push hown i0 _ 4 hi hz0 hz1 hz2 rfl rfl _ _ 31 rfl Try.underlying31 _ _ rfl rfl rfl rfl (by unfold maxLen; omega) (by omega) (by omega) ?_); intro g1 cap1 w2 hown2 hat2 hlt2 hgrow2))
      go_roundw
      case rel =>
        refine ⟨k + 1, ss ++ [_], by omega, by go_num, by simp [Hss.out], ?_, by simpa using hown2, ?_⟩
        · rw [pointsL_succ, List.map_append, Hval.out, List.map_cons, List.map_nil, hr, argX_cast]
        · exact (Hbel.out).trans ⟨hgrow2.os, hgrow2.tape, hgrow2.output, hgrow2.size, fun j hj => hgrow2.block j (by simp; omega) (fun e => by
            have := (Ho.out.lt j e.symm).1
            omega)⟩
      case measure => simp [intOf]; omega
    · obtain rfl : k = n := by omega
      go_wp2_with fail
      go_ret
      exact ⟨_, ss, rfl, hval, by rw [hss]; exact hown, hbel⟩

theorem roundPoints_impl (n : Int) (w : World) : Calls Try.prog 25 #[.int .i64 n] w (RetRowB (pointsF n) w) := by
  cases hi : inB 1 n 17
  · have H := Lib.hid (show pointsF n = ([], false) by simp [pointsF, hi])
    go_enter Try.func25, Try.ntmps25
    go_wp2_with (go_at_call 45; refine (within_impl _ _ _ _).mono ?_; rintro e w' ⟨rfl, rfl⟩)
    go_ret2
    rw [H.out]
    exact ⟨_, [], rfl, rfl, World.ownsRow_nil _ _ _ _, Below.refl _ _⟩
  · have hb := inB_true.1 hi
    obtain ⟨n, rfl⟩ := Int.eq_ofNat_of_zero_le (show 0 ≤ n by omega)
    have H := Lib.hid (show pointsF n = (pointsL n n, true) by simp [pointsF, hi])
    have C := Lib.hid (points_impl n w (by omega))
    clear hb
    go_enter Try.func25, Try.ntmps25
    go_wp2_with (first | (go_at_call 45; refine (within_impl _ _ _ _).mono ?_; rintro e w' ⟨rfl, rfl⟩) | (go_at_call 50; refine C.out.mono ?_; rintro e w1 ⟨v, rs, rfl, hrs, hown, hbel⟩))
    go_ret2
    rw [H.out]
    exact ⟨_, rs, rfl, hrs, hown, hbel⟩

set_option maxRecDepth 100000 in
set_option maxHeartbeats 400000 in
theorem roundPoints_spec (n : Int) (w : World) : Calls Try.prog 24 #[.int .i64 n] w (RetRowB (pointsF n) w) := by
  cases hin : inB 1 n 17
  · have H := Lib.hid (show pointsF n = ([], false) by simp [pointsF, hin])
    go_enter Try.func24, Try.ntmps24
    go_wp2_with (go_at_call 48; refine (in_spec _ _ _ _).mono ?_; rintro e w' ⟨rfl, rfl⟩)
    go_ret2
    rw [H.out]
    exact ⟨_, [], rfl, rfl, World.ownsRow_nil _ _ _ _, Below.refl _ _⟩
  have hb := inB_true.1 hin
  obtain ⟨n, rfl⟩ := Int.eq_ofNat_of_zero_le (show 0 ≤ n by omega)
  have H := Lib.hid (show pointsF n = (pointsL n n, true) by simp [pointsF, hin])
  have hn : n ≤ 17 := by omega
  clear hb
  obtain ⟨i0, hi, hz0, hz1, hz2⟩ := info_parts info22
  go_enter Try.func24, Try.ntmps24
  go_wp2_with (go_at_call 48; refine (in_spec _ _ _ _).mono ?_; rintro e w' ⟨rfl, rfl⟩)
  go_loopw [4, 5] (fun u i wr => PtsRel n w u i wr) (fun _ i _ => n - (intOf i).toNat)
  case atStart => exact ⟨0, [], Nat.zero_le _, rfl, by simp, by simp [pointsL], World.ownsRow_lit _ _ _ (by simp) (by decide) rfl, (Below.refl _ _).alloc (Nat.le_refl _) _⟩
  case round =>
    obtain ⟨k, ss, hk, rfl, hss, hval, hown, hbel⟩ := hrel
    by_cases hlt : k < n
    · have hw1 : w.heap.size ≤ wr.heap.size := hbel.size
      have Hok := Lib.hid (show okX (turnF (floatOfInt .f32 (2 * (k : Int) + 1)) (floatOfInt .f32 (4 * (n : Int)))) = true by rw [argX_cast]; exact arg_point (by omega) hlt)
      have Hval := Lib.hid hval
      have Hss := Lib.hid hss
      have Hbel := Lib.hid hbel
      have Ho := Lib.hid hown
      clear hval hss hbel
      have j1 : (0 : Int) ≤ (k : Int) := by omega
      have j2 : (k : Int) ≤ 16 := by omega
      have j3 : (n : Int) ≤ 17 := by omega
      have j4 : (0 : Int) ≤ (n : Int) := by omega
      go_wp2_with (first | (go_at_call 49; refine (cosine_spec _ _ _ Hok.out).mono ?_; rintro e w' ⟨r, m, rfl, hr, rfl⟩) | (at_builtin; (refine wpList_push hown i0 _ 4 hi hz0 hz1 hz2 rfl rfl _ _ 31 rfl Try.underlying31 _ _ rfl rfl rfl rfl (by unfold maxLen; omega) (by omega) (by omega) ?_); intro g1 cap1 w2 hown2 hat2 hlt2 hgrow2))
      go_roundw
      case rel =>
        refine ⟨k + 1, ss ++ [_], by omega, by go_num, by simp [Hss.out], ?_, by simpa using hown2, ?_⟩
        · rw [pointsL_succ, List.map_append, Hval.out, List.map_cons, List.map_nil, hr, argX_cast]
        · exact (Hbel.out).trans ⟨hgrow2.os, hgrow2.tape, hgrow2.output, hgrow2.size, fun j hj => hgrow2.block j (by simp; omega) (fun e => by
            have := (Ho.out.lt j e.symm).1
            omega)⟩
      case measure => simp [intOf]; omega
    · obtain rfl : k = n := by omega
      go_wp2_with fail
      go_ret2
      rw [H.out]
      exact ⟨_, ss, rfl, hval, by rw [hss]; exact hown, hbel⟩

end Go.Proofs.Ytcbaanidbkjmcaa
