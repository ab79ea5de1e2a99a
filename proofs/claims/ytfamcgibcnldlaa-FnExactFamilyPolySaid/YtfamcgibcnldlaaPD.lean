/- Numbers of lists, numbers as complex ones, trimmed lists, valid polynomials; of the program and of the reference. Conditions: lengths of at most 1000. -/
import Derived.Test.YtfamcgibcnldlaaPC
namespace Go.Proofs.Ytfamcgibcnldlaa
open Go Go.RowKit
set_option linter.unusedSimpArgs false
set_option linter.unusedVariables false

theorem infoC : (Try.prog.info? 59).map (fun i => (i.zero, i.size, i.bytes)) = some (some (.complex .f32 0 0), 1, 8) := by kernel_rfl

theorem cx_take {rs : List Nat} {k : Nat} (h : k < rs.length) : cx (rs.take k) ++ [.complex .f32 rs[k] 0] = cx (rs.take (k + 1)) := by
  rw [List.take_succ_eq_append_getElem h, cx, cx, List.map_append]; rfl

/-- A new list of complex numbers. -/
def RetC (rs : List Nat) (w : World) (e : Ending) (w' : World) : Prop := ∃ v, e = .returned v ∧ OwV 59 w' w.heap.size v (cx rs) ∧ Below w.heap.size w w'

theorem realAt_impl (v : Value) (rs : List Nat) (k : Int) (w : World) (hv : RdV w v (fl rs)) (hl : rs.length ≤ 1000) (h0 : -1000 ≤ k) (h1 : k ≤ 1000) :
    Calls Try.prog 48 #[v, .int .i64 k] w fun e w' => e = .returned (.float .f32 (rat rs k)) ∧ w = w' := by
  by_cases k0 : k < 0
  · obtain ⟨ao, cap, rfl, _⟩ := hv.shape
    rw [fl_length]
    have H := Lib.hid (rat_neg (l := rs) k0)
    clear hv
    go_enter Try.func48, Try.ntmps48
    go_wp2
    go_ret
    rw [H.out]
    exact ⟨rfl, rfl⟩
  · by_cases k1 : (rs.length : Int) ≤ k
    · obtain ⟨ao, cap, rfl, _⟩ := hv.shape
      rw [fl_length]
      have H := Lib.hid (rat_over k1)
      clear hv
      go_enter Try.func48, Try.ntmps48
      go_wp2
      go_ret
      rw [H.out]
      exact ⟨rfl, rfl⟩
    · obtain ⟨n, rfl⟩ := Int.eq_ofNat_of_zero_le (show 0 ≤ k by omega)
      rcases hv.openF with ⟨rfl, _⟩ | ⟨b, off, cap, rfl, hb, hcp, hc⟩
      · exact absurd k1 (by simp)
      · have c1 := hc n (by omega)
        have H := Lib.hid (show rat rs n = rs[n]'(by omega) by rw [rat_in]; simp [List.getD, show n < rs.length by omega])
        clear hc hv
        generalize (rs[n]'(by omega)) = x at *
        go_enter Try.func48, Try.ntmps48
        go_wp2
        go_ret
        rw [H.out]
        exact ⟨rfl, rfl⟩

theorem at_spec (v : Value) (rs : List Nat) (k : Int) (w : World) (hv : RdV w v (fl rs)) (hl : rs.length ≤ 1000) (h0 : -1000 ≤ k) (h1 : k ≤ 1000) :
    Calls Try.prog 44 #[v, .int .i64 k] w fun e w' => e = .returned (.float .f32 (rat rs k)) ∧ w = w' := by
  by_cases k0 : k < 0
  · obtain ⟨ao, cap, rfl, _⟩ := hv.shape
    rw [fl_length]
    have H := Lib.hid (rat_neg (l := rs) k0)
    clear hv
    go_enter Try.func44, Try.ntmps44
    go_wp2
    go_ret
    rw [H.out]
    exact ⟨rfl, rfl⟩
  · by_cases k1 : (rs.length : Int) ≤ k
    · obtain ⟨ao, cap, rfl, _⟩ := hv.shape
      rw [fl_length]
      have H := Lib.hid (rat_over k1)
      clear hv
      go_enter Try.func44, Try.ntmps44
      go_wp2
      go_ret
      rw [H.out]
      exact ⟨rfl, rfl⟩
    · obtain ⟨n, rfl⟩ := Int.eq_ofNat_of_zero_le (show 0 ≤ k by omega)
      rcases hv.openF with ⟨rfl, _⟩ | ⟨b, off, cap, rfl, hb, hcp, hc⟩
      · exact absurd k1 (by simp)
      · have c1 := hc n (by omega)
        have H := Lib.hid (show rat rs n = rs[n]'(by omega) by rw [rat_in]; simp [List.getD, show n < rs.length by omega])
        clear hc hv
        generalize (rs[n]'(by omega)) = x at *
        go_enter Try.func44, Try.ntmps44
        go_wp2
        go_ret
        rw [H.out]
        exact ⟨rfl, rfl⟩

set_option maxRecDepth 100000 in
set_option maxHeartbeats 400000 in
theorem complexes_impl (v : Value) (rs : List Nat) (w : World) (hv : RdV w v (fl rs)) (hl : rs.length ≤ 1000) :
    Calls Try.prog 33 #[v] w (RetC rs w) := by
  have Hv := Lib.hid hv
  obtain ⟨ao, cap, rfl, _⟩ := hv.shape
  rw [fl_length]
  clear hv
  go_enter Try.func33, Try.ntmps33
  go_wp2
  go_loopw [3, 9] (fun ov i wr => ∃ k : Nat, k ≤ rs.length ∧ i = .int .i64 k ∧ RowV 59 wr w.heap.size ov (cx (rs.take k)) ∧ Below w.heap.size w wr) (fun _ i _ => rs.length - (intOf i).toNat)
  case atStart => exact ⟨0, Nat.zero_le _, rfl, World.ownsRow_lit _ _ _ (by simp) (by decide) rfl, (Below.refl _ _).alloc (Nat.le_refl _) _⟩
  case round =>
    obtain ⟨k, hk, rfl, hrow, hbel⟩ := hrel
    have hsz := hbel.size
    by_cases hlt : k < rs.length
    · rcases Hv.out.openF with ⟨rfl, _⟩ | ⟨b, off, cap', hve, hb, hcp, hc⟩
      · simp at hlt
      simp only [Value.slice.injEq, fl_length] at hve
      obtain ⟨rfl, _, rfl⟩ := hve
      have c1 := (hbel.cell (p := ⟨b, off + k, none⟩) hb).trans (hc k hlt)
      have Hn := Lib.hid (show cx (rs.take k) ++ [.complex .f32 rs[k] 0] = cx (rs.take (k + 1)) from cx_take hlt)
      have Hl := Lib.hid (show (cx (rs.take k)).length ≤ 1099511627776 by simp; omega)
      have Hb := Lib.hid hbel
      clear hc hbel
      generalize rs[k] = x at *
      go_wp2_with (at_builtin; refine wpList_pushV (.complex .f32 0 0) 8 hrow infoC rfl rfl (by decide) rfl _ _ rfl Try.underlying34 Hl.out (by omega) rfl rfl rfl rfl rfl rfl ?_; intro v1 w1 hr1 hb1 hg1 ho1)
      go_roundw
      case rel => exact ⟨k + 1, by omega, by go_num, by rw [← Hn.out]; exact hr1, Hb.out.trans hb1⟩
      case measure => simp [intOf]; omega
    · obtain rfl : k = rs.length := by omega
      rw [List.take_length] at hrow
      go_wp2
      go_ret
      exact ⟨_, rfl, hrow.own, hbel⟩

set_option maxRecDepth 100000 in
set_option maxHeartbeats 400000 in
theorem complex_spec (v : Value) (rs : List Nat) (w : World) (hv : RdV w v (fl rs)) (hl : rs.length ≤ 1000) :
    Calls Try.prog 30 #[v] w (RetC rs w) := by
  have Hv := Lib.hid hv
  obtain ⟨ao, cap, rfl, _⟩ := hv.shape
  rw [fl_length]
  clear hv
  go_enter Try.func30, Try.ntmps30
  go_wp2
  go_loopw [3, 4] (fun ov i wr => ∃ k : Nat, k ≤ rs.length ∧ i = .int .i64 k ∧ RowV 59 wr w.heap.size ov (cx (rs.take k)) ∧ Below w.heap.size w wr) (fun _ i _ => rs.length - (intOf i).toNat)
  case atStart => exact ⟨0, Nat.zero_le _, rfl, World.ownsRow_lit _ _ _ (by simp) (by decide) rfl, (Below.refl _ _).alloc (Nat.le_refl _) _⟩
  case round =>
    obtain ⟨k, hk, rfl, hrow, hbel⟩ := hrel
    have hsz := hbel.size
    by_cases hlt : k < rs.length
    · rcases Hv.out.openF with ⟨rfl, _⟩ | ⟨b, off, cap', hve, hb, hcp, hc⟩
      · simp at hlt
      simp only [Value.slice.injEq, fl_length] at hve
      obtain ⟨rfl, _, rfl⟩ := hve
      have c1 := (hbel.cell (p := ⟨b, off + k, none⟩) hb).trans (hc k hlt)
      have Hn := Lib.hid (show cx (rs.take k) ++ [.complex .f32 rs[k] 0] = cx (rs.take (k + 1)) from cx_take hlt)
      have Hl := Lib.hid (show (cx (rs.take k)).length ≤ 1099511627776 by simp; omega)
      have Hb := Lib.hid hbel
      clear hc hbel
      generalize rs[k] = x at *
      go_wp2_with (at_builtin; refine wpList_pushV (.complex .f32 0 0) 8 hrow infoC rfl rfl (by decide) rfl _ _ rfl Try.underlying34 Hl.out (by omega) rfl rfl rfl rfl rfl rfl ?_; intro v1 w1 hr1 hb1 hg1 ho1)
      go_roundw
      case rel => exact ⟨k + 1, by omega, by go_num, by rw [← Hn.out]; exact hr1, Hb.out.trans hb1⟩
      case measure => simp [intOf]; omega
    · obtain rfl : k = rs.length := by omega
      rw [List.take_length] at hrow
      go_wp2
      go_ret
      exact ⟨_, rfl, hrow.own, hbel⟩

set_option maxRecDepth 100000 in
set_option maxHeartbeats 400000 in
theorem trim_impl (b off cap : Nat) (rs : List Nat) (w : World) (hv : RdV w (.slice (some ⟨b, off, none⟩) rs.length cap) (cx rs)) (hn : rs ≠ []) (hl : rs.length ≤ 1000) :
    Calls Try.prog 46 #[.slice (some ⟨b, off, none⟩) rs.length cap] w fun e w' => e = .returned (.slice (some ⟨b, off, none⟩) (trimN (rs.map (nrm .f32)) rs.length) cap) ∧ w = w' := by
  have h0 : 0 < rs.length := List.length_pos_iff.2 hn
  rcases hv.openC with ⟨rfl, _⟩ | ⟨b', off', cap', hve, hb, hcp, hc⟩
  · exact absurd rfl hn
  simp only [Value.slice.injEq, Option.some.injEq, Addr.mk.injEq, and_true, true_and] at hve
  obtain ⟨⟨rfl, rfl⟩, rfl⟩ := hve
  have Hc := Lib.hid hc
  clear hc hv
  go_enter Try.func46, Try.ntmps46
  go_wp2
  go_loop [3] (fun i => ∃ k : Nat, 1 ≤ k ∧ k ≤ rs.length ∧ i = .int .i64 k ∧ trimN (rs.map (nrm .f32)) k = trimN (rs.map (nrm .f32)) rs.length) (fun i => (intOf i).toNat)
  case atStart => exact ⟨rs.length, h0, Nat.le_refl _, rfl, rfl⟩
  case round =>
    obtain ⟨k, hk0, hk, rfl, hf⟩ := hrel
    have c1 := Hc.out (k - 1) (by omega)
    have hz : zeroF ((rs.map (nrm .f32)).getD (k - 1) 0) = zeroF (nrm .f32 (rs[k - 1]'(by omega))) := by simp [List.getD, show k - 1 < rs.length by omega]
    by_cases h1 : 1 < k
    · cases h2 : zeroF (nrm .f32 (rs[k - 1]'(by omega)))
      · have H2 := Lib.hid ((trimN_stop h1 (hz.trans h2)).symm.trans hf)
        clear hf hz
        generalize (rs[k - 1]'(by omega)) = x at *
        go_wp2
        go_ret
        rw [← H2.out]
        exact ⟨rfl, rfl⟩
      · have H2 := Lib.hid ((trimN_step h1 (hz.trans h2)).symm.trans hf)
        clear hf hz
        generalize (rs[k - 1]'(by omega)) = x at *
        go_wp2
        go_round
        case rel => exact ⟨k - 1, by omega, by omega, by go_num, H2.out⟩
        case measure => simp [intOf]; omega
    · have H2 := Lib.hid ((trimN_small (F := rs.map (nrm .f32)) (show k ≤ 1 by omega)).symm.trans hf)
      clear hf hz c1
      go_wp2
      go_ret
      rw [← H2.out]
      exact ⟨rfl, rfl⟩

set_option maxRecDepth 100000 in
set_option maxHeartbeats 400000 in
theorem trim_spec (b off cap : Nat) (rs : List Nat) (w : World) (hv : RdV w (.slice (some ⟨b, off, none⟩) rs.length cap) (cx rs)) (hn : rs ≠ []) (hl : rs.length ≤ 1000) :
    Calls Try.prog 42 #[.slice (some ⟨b, off, none⟩) rs.length cap] w fun e w' => e = .returned (.slice (some ⟨b, off, none⟩) (trimN (rs.map (nrm .f32)) rs.length) cap) ∧ w = w' := by
  have h0 : 0 < rs.length := List.length_pos_iff.2 hn
  rcases hv.openC with ⟨rfl, _⟩ | ⟨b', off', cap', hve, hb, hcp, hc⟩
  · exact absurd rfl hn
  simp only [Value.slice.injEq, Option.some.injEq, Addr.mk.injEq, and_true, true_and] at hve
  obtain ⟨⟨rfl, rfl⟩, rfl⟩ := hve
  have Hc := Lib.hid hc
  clear hc hv
  go_enter Try.func42, Try.ntmps42
  go_wp2
  go_loop [3] (fun i => ∃ k : Nat, 1 ≤ k ∧ k ≤ rs.length ∧ i = .int .i64 k ∧ trimN (rs.map (nrm .f32)) k = trimN (rs.map (nrm .f32)) rs.length) (fun i => (intOf i).toNat)
  case atStart => exact ⟨rs.length, h0, Nat.le_refl _, rfl, rfl⟩
  case round =>
    obtain ⟨k, hk0, hk, rfl, hf⟩ := hrel
    have c1 := Hc.out (k - 1) (by omega)
    have hz : zeroF ((rs.map (nrm .f32)).getD (k - 1) 0) = zeroF (nrm .f32 (rs[k - 1]'(by omega))) := by simp [List.getD, show k - 1 < rs.length by omega]
    by_cases h1 : 1 < k
    · cases h2 : zeroF (nrm .f32 (rs[k - 1]'(by omega)))
      · have H2 := Lib.hid ((trimN_stop h1 (hz.trans h2)).symm.trans hf)
        clear hf hz
        generalize (rs[k - 1]'(by omega)) = x at *
        go_wp2
        go_ret
        rw [← H2.out]
        exact ⟨rfl, rfl⟩
      · have H2 := Lib.hid ((trimN_step h1 (hz.trans h2)).symm.trans hf)
        clear hf hz
        generalize (rs[k - 1]'(by omega)) = x at *
        go_wp2
        go_round
        case rel => exact ⟨k - 1, by omega, by omega, by go_num, H2.out⟩
        case measure => simp [intOf]; omega
    · have H2 := Lib.hid ((trimN_small (F := rs.map (nrm .f32)) (show k ≤ 1 by omega)).symm.trans hf)
      clear hf hz c1
      go_wp2
      go_ret
      rw [← H2.out]
      exact ⟨rfl, rfl⟩

theorem clip_impl (a : Option Addr) (n c : Nat) (w : World) (h1 : n ≤ c) (h2 : c ≤ maxLen) : Calls Try.prog 45 #[.slice a n c] w fun e w' => e = .returned (.slice a n n) ∧ w = w' := by
  have h3 : (n : Int) ≤ c := by omega
  go_enter Try.func45, Try.ntmps45
  go_wp2
  go_ret
  exact ⟨rfl, rfl⟩

end Go.Proofs.Ytfamcgibcnldlaa
