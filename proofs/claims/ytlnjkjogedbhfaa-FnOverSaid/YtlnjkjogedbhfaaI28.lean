/- Slopes of wholes: both texts. Conditions: valid wholes for the inner ones. -/
import Derived.Test.YtlnjkjogedbhfaaI22
namespace Go.Proofs.Ytlnjkjogedbhfaa
open Go Go.RowKit
set_option linter.unusedSimpArgs false
set_option linter.unusedVariables false

def slopeE (zs : List Int) (k : Nat) : Int := ((k + 1 : Nat) : Int) * zs.getD (k + 1) 0
def slopeZ (zs : List Int) : List Int := buildZ (slopeE zs) (zs.length - 1)
def slopeR (zs : List Int) : List Int × Bool := if validB zs then giveF (trimS (slopeZ zs)) else ([], false)
theorem slope_len (zs : List Int) : (slopeZ zs).length = zs.length - 1 := buildZ_length _ _
theorem trimS_len {zs : List Int} (h : zs.length ≤ 17) : (trimS zs).length ≤ 17 := by
  unfold trimS
  split
  · simp
  · rw [trimZ_length]; exact Nat.le_trans (trimTo_le _ _) h
theorem mul_slope {k : Nat} {z : Int} (hk : k ≤ 17) (hz : -1000000 ≤ z ∧ z ≤ 1000000) : -17000000 ≤ (k : Int) * z ∧ (k : Int) * z ≤ 17000000 := by
  have h1 : (k : Int) * z ≤ (k : Int) * 1000000 := Int.mul_le_mul_of_nonneg_left hz.2 (by omega)
  have h2 : (k : Int) * (-1000000) ≤ (k : Int) * z := Int.mul_le_mul_of_nonneg_left hz.1 (by omega)
  omega

set_option maxRecDepth 100000 in
set_option maxHeartbeats 1600000 in
theorem slope_impl (v : Value) (zs : List Int) (w : World) (hv : RdI w v zs) (hz : Vld zs) : Calls Try.prog 103 #[.agg #[v]] w (RW (trimS (slopeZ zs)) w) := by
  have Hv := Lib.hid hv
  have hn1 : 0 < zs.length := List.length_pos_iff.2 hz.ne
  have hl := hz.len
  have Hz := Lib.hid hz
  obtain ⟨b, off, cap, rfl, hb, hc⟩ := hv.open hz.ne
  have Hc := Lib.hid (fun (w' : World) (h : Below w.heap.size w w') i (hi : i < zs.length) => (h.cell (p := ⟨b, off + i, none⟩) hb).trans (hc i hi))
  clear hc hv hz
  go_enter Try.func103, Try.ntmps103
  go_wp2
  go_loopw [3, 10] (fun ov i wr => ∃ k : Nat, k ≤ zs.length ∧ i = .int .i64 k ∧ RowI wr (w.heap.size + 2) ov (buildZ (slopeE zs) (k - 1)) ∧ Below w.heap.size w wr ∧ wr.cell? ⟨w.heap.size + 1, 0, none⟩ = some (.slice none 0 0) ∧ wr.frozen? ⟨w.heap.size + 1, 0, none⟩ = false ∧ w.heap.size + 1 < wr.heap.size) (fun _ i _ => zs.length - (intOf i).toNat)
  case atStart => exact ⟨0, Nat.zero_le _, rfl, RowI.emptyB (by simp) (by simp <;> omega), by (repeat' (first | (with_reducible exact Below.refl _ _) | (with_reducible assumption) | (with_reducible refine Below.alloc ?_ ?_ _) | (with_reducible refine Below.setCell ?_ ?_ _) | (with_reducible refine Below.drew ?_) | (with_reducible refine Below.via (by assumption) ?_ ?_) | go_size)), by go_simp, by go_simp, by simp <;> omega⟩
  case round =>
    obtain ⟨k, hk, rfl, hrow, hbel, hcell, hfr, hgt⟩ := hrel
    have hsz := hbel.size
    by_cases hlt : k < zs.length
    · have c1 := Hc.out wr hbel k hlt
      cases k with
      | zero =>
        rw [Nat.add_zero] at c1
        generalize zs.getD 0 0 = z at *
        go_wp2
        go_roundw
        case rel => exact ⟨1, by omega, by go_num, hrow, hbel, hcell, hfr, hgt⟩
        case measure => simp [intOf]; omega
      | succ j =>
        have hlen : (buildZ (slopeE zs) j).length ≤ 1099511627776 := by rw [buildZ_length]; omega
        have Hn := Lib.hid (show buildZ (slopeE zs) j ++ [((j + 1 : Nat) : Int) * zs.getD (j + 1) 0] = buildZ (slopeE zs) (j + 1) from buildZ_succ _ j)
        have hz := Hz.out.bd (j + 1)
        have hp := mul_slope (k := j + 1) (by omega) hz
        have hrow := (show RowI wr (w.heap.size + 2) u3 (buildZ (slopeE zs) j) from hrow)
        generalize zs.getD (j + 1) 0 = z at *
        have hjj : ((j + 1 : Nat) : Int) = (j : Int) + 1 := by omega
        have hpos : (0 : Int) < (j : Int) + 1 := by omega
        rw [hjj] at hp
        have q4 : IntKind.i64.wrap (((j : Int) + 1) * z) = ((j : Int) + 1) * z := IntWalk.i64_in _ ⟨by omega, by omega⟩
        go_wp2_with (at_builtin; refine wpList_pushI hrow rfl _ _ rfl int64S_under hlen (by first | omega | (simp only [World.size_alloc]; omega)) rfl rfl ?_; intro v1 w1 hr1 hb1)
        go_roundw
        case rel => exact ⟨j + 1 + 1, by omega, by go_num, by rw [show j + 1 + 1 - 1 = j + 1 by omega, ← Hn.out, hjj]; exact hr1, hbel.trans (hb1.mono (by omega)), (hb1.cell (p := ⟨w.heap.size + 1, 0, none⟩) (by simp)).trans hcell, (hb1.frozen (p := ⟨w.heap.size + 1, 0, none⟩) (by simp)).trans hfr, Nat.lt_of_lt_of_le hgt (by have h := hb1.size; omega)⟩
        case measure => simp [intOf]; omega
    · obtain rfl : k = zs.length := by omega
      have Hrow := Lib.hid (show OwI wr (w.heap.size + 2) u3 (slopeZ zs) from hrow.own)
      have hsl := slope_len zs
      clear hrow
      by_cases h1 : zs.length = 1
      · have hs0 : slopeZ zs = [] := List.length_eq_zero_iff.1 (by omega)
        have Hd := Lib.hid (show trimS (slopeZ zs) = trimZ [0] by rw [hs0]; rfl)
        have Hrow2 := Lib.hid (show OwI wr (w.heap.size + 2) u3 [] by have h := Hrow.out; rw [hs0] at h; exact h)
        obtain ⟨ao3, c3, rfl⟩ := Hrow2.out.rd.shape
        clear hs0 hsl Hrow
        go_wp2_with fail
        (go_at_call 86; ((with_reducible refine (whole_impl _ [0] _ (w.heap.size + 2) (OwI.litS (by simp) (by omega)) (by simp)).mono ?_); rintro e w' ⟨v1, rfl, ho1, hb1⟩))
        have Ho := Lib.hid ho1
        have z1 := hb1.size
        simp only [World.size_alloc] at z1
        have e2 := (hb1.cell (p := ⟨w.heap.size + 1, 0, none⟩) (by simp only [World.size_alloc]; omega)).trans (((Below.refl _ wr).alloc (Nat.le_refl _) _).cell (p := ⟨w.heap.size + 1, 0, none⟩) hgt |>.trans hcell)
        have g2 := (hb1.frozen (p := ⟨w.heap.size + 1, 0, none⟩) (by simp only [World.size_alloc]; omega)).trans (((Below.refl _ wr).alloc (Nat.le_refl _) _).frozen (p := ⟨w.heap.size + 1, 0, none⟩) hgt |>.trans hfr)
        have l1 : w.heap.size + 1 < w'.heap.size := by omega
        obtain ⟨ao1, cap1, rfl⟩ := ho1.rd.shape
        clear ho1
        go_wp2_with fail
        (try simp only [Exit.inBlock, Exit.then]); refine bodyPost_ret (by simp [results, Try.results103, go_sem, *]; try rfl) rfl ?_
        rw [Hd.out]
        exact ⟨_, rfl, OwI.mono (B := w.heap.size + 2) (OwI.setCell Ho.out (by show w.heap.size + 1 < _; omega) _) (by omega), by (repeat' (first | (with_reducible exact Below.refl _ _) | (with_reducible assumption) | (with_reducible refine Below.alloc ?_ ?_ _) | (with_reducible refine Below.setCell ?_ ?_ _) | (with_reducible refine Below.drew ?_) | (with_reducible refine Below.via (by assumption) ?_ ?_) | go_size))⟩
      · have hne : slopeZ zs ≠ [] := by intro h; rw [h] at hsl; simp at hsl; omega
        have Hd := Lib.hid (trimS_eq hne)
        obtain ⟨ao3, c3, rfl⟩ := Hrow.out.rd.shape
        rw [hsl]
        have hlp : ¬ (((zs.length - 1 : Nat) : Int) = 0) := by omega
        have Hrow2 := Lib.hid (show OwI wr (w.heap.size + 2) (.slice ao3 (zs.length - 1) c3) (slopeZ zs) by have h := Hrow.out; rw [hsl] at h; exact h)
        clear Hrow
        go_wp2_with fail
        (go_at_call 86; ((with_reducible refine (whole_impl _ (slopeZ zs) _ (w.heap.size + 2) Hrow2.out (by omega)).mono ?_); rintro e w' ⟨v1, rfl, ho1, hb1⟩))
        have Ho := Lib.hid ho1
        have z1 := hb1.size
        have e2 := (hb1.cell (p := ⟨w.heap.size + 1, 0, none⟩) hgt).trans hcell
        have g2 := (hb1.frozen (p := ⟨w.heap.size + 1, 0, none⟩) hgt).trans hfr
        have l1 : w.heap.size + 1 < w'.heap.size := by omega
        obtain ⟨ao1, cap1, rfl⟩ := ho1.rd.shape
        clear ho1
        go_wp2_with fail
        (try simp only [Exit.inBlock, Exit.then]); refine bodyPost_ret (by simp [results, Try.results103, go_sem, *]; try rfl) rfl ?_
        rw [Hd.out]
        exact ⟨_, rfl, OwI.mono (B := w.heap.size + 2) (OwI.setCell Ho.out (by show w.heap.size + 1 < _; omega) _) (by omega), by (repeat' (first | (with_reducible exact Below.refl _ _) | (with_reducible assumption) | (with_reducible refine Below.alloc ?_ ?_ _) | (with_reducible refine Below.setCell ?_ ?_ _) | (with_reducible refine Below.drew ?_) | (with_reducible refine Below.via (by assumption) ?_ ?_) | go_size))⟩

set_option maxRecDepth 100000 in
set_option maxHeartbeats 1600000 in
theorem slope_spec (v : Value) (zs : List Int) (w : World) (hv : RdI w v zs) (hz : Vld zs) : Calls Try.prog 138 #[v] w (RL (trimS (slopeZ zs)) w) := by
  have Hv := Lib.hid hv
  have hn1 : 0 < zs.length := List.length_pos_iff.2 hz.ne
  have hl := hz.len
  have Hz := Lib.hid hz
  obtain ⟨b, off, cap, rfl, hb, hc⟩ := hv.open hz.ne
  have Hc := Lib.hid (fun (w' : World) (h : Below w.heap.size w w') i (hi : i < zs.length) => (h.cell (p := ⟨b, off + i, none⟩) hb).trans (hc i hi))
  clear hc hv hz
  go_enter Try.func138, Try.ntmps138
  go_wp2
  go_loopw [3, 4] (fun ov i wr => ∃ k : Nat, k + 1 ≤ zs.length ∧ i = .int .i64 ((k : Int) + 1) ∧ RowI wr w.heap.size ov (buildZ (slopeE zs) k) ∧ Below w.heap.size w wr) (fun _ i _ => zs.length - (intOf i).toNat)
  case atStart => exact ⟨0, by omega, by simp, RowI.emptyB (by simp) (by simp <;> omega), by (repeat' (first | (with_reducible exact Below.refl _ _) | (with_reducible assumption) | (with_reducible refine Below.alloc ?_ ?_ _) | (with_reducible refine Below.setCell ?_ ?_ _) | (with_reducible refine Below.drew ?_) | (with_reducible refine Below.via (by assumption) ?_ ?_) | go_size))⟩
  case round =>
    obtain ⟨k, hk, rfl, hrow, hbel⟩ := hrel
    have hsz := hbel.size
    by_cases hlt : k + 1 < zs.length
    · have c1 := Hc.out wr hbel (k + 1) hlt
      have hlen : (buildZ (slopeE zs) k).length ≤ 1099511627776 := by rw [buildZ_length]; omega
      have Hn := Lib.hid (show buildZ (slopeE zs) k ++ [((k + 1 : Nat) : Int) * zs.getD (k + 1) 0] = buildZ (slopeE zs) (k + 1) from buildZ_succ _ k)
      have hz := Hz.out.bd (k + 1)
      have hp := mul_slope (k := k + 1) (by omega) hz
      generalize zs.getD (k + 1) 0 = z at *
      have hjj : ((k + 1 : Nat) : Int) = (k : Int) + 1 := by omega
      have hlt2 : (k : Int) + 1 < zs.length := by omega
      have hnn : (0 : Int) ≤ (k : Int) + 1 := by omega
      have htn : ((k : Int) + 1).toNat = k + 1 := by omega
      rw [hjj] at hp
      have q4 : IntKind.i64.wrap (((k : Int) + 1) * z) = ((k : Int) + 1) * z := IntWalk.i64_in _ ⟨by omega, by omega⟩
      go_wp2_with (at_builtin; refine wpList_pushI hrow rfl _ _ rfl int64S_under hlen (by first | omega | (simp only [World.size_alloc]; omega)) rfl rfl ?_; intro v1 w1 hr1 hb1)
      go_roundw
      case rel => exact ⟨k + 1, by omega, by go_num, by rw [← Hn.out, hjj]; exact hr1, hbel.trans (hb1.mono (by omega))⟩
      case measure => simp [intOf]; omega
    · have hke : k = zs.length - 1 := by omega
      have Hrow := Lib.hid (show OwI wr w.heap.size u3 (slopeZ zs) by have h := hrow.own; rw [hke] at h; exact h)
      have hsl := slope_len zs
      have hge : ¬ ((k : Int) + 1 < zs.length) := by omega
      clear hrow hke
      go_wp2_with fail
      (go_at_call 74; ((with_reducible refine (trim_spec _ (slopeZ zs) _ Hrow.out.rd (by omega)).mono ?_); rintro e w' ⟨v1, rfl, ho1, hb1⟩))
      obtain ⟨ao1, cap1, rfl⟩ := ho1.rd.shape
      have Ho := Lib.hid ho1
      have z1 := hb1.size
      clear ho1
      go_wp2_with fail
      go_ret
      exact ⟨_, rfl, Ho.out.mono (by omega), hbel.trans (hb1.mono (by omega))⟩

set_option maxRecDepth 100000 in
set_option maxHeartbeats 1600000 in
theorem SlopeWhole_impl (v : Value) (zs : List Int) (w : World) (hv : RdI w v zs) (hl : zs.length ≤ 1099511627776) : Calls Try.prog 29 #[.agg #[v]] w (RWB (slopeR zs) w) := by
  have Hv := Lib.hid hv
  obtain ⟨ao, cap, rfl⟩ := hv.shape
  clear hv
  cases hq : validB zs
  · have Ho := Lib.hid (show slopeR zs = ([], false) by rw [slopeR, if_neg (by rw [hq]; simp)])
    go_enter Try.func29, Try.ntmps29
    go_wp2_with fail
    (go_at_call 24; ((with_reducible refine (valid_impl _ zs _ (Hv.out.below (by (repeat' (first | (with_reducible exact Below.refl _ _) | (with_reducible assumption) | (with_reducible refine Below.alloc ?_ ?_ _) | (with_reducible refine Below.setCell ?_ ?_ _) | (with_reducible refine Below.drew ?_) | (with_reducible refine Below.via (by assumption) ?_ ?_) | go_size)))) hl).mono ?_); rintro e w1 ⟨rfl, hb1⟩))
    obtain ⟨c1, f1⟩ := bcell hb1
    have z1 := hb1.size
    simp only [World.size_alloc] at z1
    have l1 : w.heap.size + 1 < w1.heap.size := by omega
    go_wp2_with fail
    (try simp only [Exit.inBlock, Exit.then]); refine bodyPost_ret (by simp [results, Try.results29, go_sem, *]; try rfl) rfl ?_
    rw [Ho.out]
    exact ⟨_, rfl, OwI.nil _ _, by (repeat' (first | (with_reducible exact Below.refl _ _) | (with_reducible assumption) | (with_reducible refine Below.alloc ?_ ?_ _) | (with_reducible refine Below.setCell ?_ ?_ _) | (with_reducible refine Below.drew ?_) | (with_reducible refine Below.via (by assumption) ?_ ?_) | go_size))⟩
  · have Ho := Lib.hid (show slopeR zs = giveF (trimS (slopeZ zs)) by rw [slopeR, if_pos hq])
    have HV := Lib.hid (validB_iff.1 hq)
    have hl17 := HV.out.len
    have htl := trimS_len (zs := slopeZ zs) (by rw [slope_len]; omega)
    go_enter Try.func29, Try.ntmps29
    go_wp2_with fail
    (go_at_call 24; ((with_reducible refine (valid_impl _ zs _ (Hv.out.below (by (repeat' (first | (with_reducible exact Below.refl _ _) | (with_reducible assumption) | (with_reducible refine Below.alloc ?_ ?_ _) | (with_reducible refine Below.setCell ?_ ?_ _) | (with_reducible refine Below.drew ?_) | (with_reducible refine Below.via (by assumption) ?_ ?_) | go_size)))) hl).mono ?_); rintro e w1 ⟨rfl, hb1⟩))
    obtain ⟨c1, f1⟩ := bcell hb1
    have z1 := hb1.size
    simp only [World.size_alloc] at z1
    have l0 : w.heap.size < w1.heap.size := by omega
    have l1 : w.heap.size + 1 < w1.heap.size := by omega
    go_wp2_with fail
    clear hq
    (go_at_call 103; ((with_reducible refine (slope_impl _ zs _ (Hv.out.below (by (repeat' (first | (with_reducible exact Below.refl _ _) | (with_reducible assumption) | (with_reducible refine Below.alloc ?_ ?_ _) | (with_reducible refine Below.setCell ?_ ?_ _) | (with_reducible refine Below.drew ?_) | (with_reducible refine Below.via (by assumption) ?_ ?_) | go_size)))) HV.out).mono ?_); rintro e w2 ⟨v2, rfl, ho2, hb2⟩))
    obtain ⟨c2, f2⟩ := bcell hb2
    have z2 := hb2.size
    have l2 : w.heap.size + 1 < w2.heap.size := by omega
    have Ho2 := Lib.hid ho2
    obtain ⟨p2, n2, rfl⟩ := ho2.rd.shape
    clear ho2
    generalize trimS (slopeZ zs) = T at *
    go_wp2_with fail
    (go_at_call 92; ((with_reducible refine (checked_impl _ T _ w1.heap.size Ho2.out (by omega)).mono ?_); rintro e w3 ⟨v3, rfl, ho3, hb3⟩))
    obtain ⟨c3, f3⟩ := bcell hb3
    have z3 := hb3.size
    have l3 : w.heap.size + 1 < w3.heap.size := by omega
    have Ho3 := Lib.hid ho3
    obtain ⟨p3, n3, rfl⟩ := ho3.rd.shape
    clear ho3
    generalize giveF T = R at *
    go_wp2_with fail
    (try simp only [Exit.inBlock, Exit.then]); refine bodyPost_ret (by simp [results, Try.results29, go_sem, *]; try rfl) rfl ?_
    rw [Ho.out]
    exact ⟨_, rfl, OwI.mono (B := w1.heap.size) (OwI.setCell Ho3.out (by show w.heap.size + 1 < _; omega) _) (by omega), by (repeat' (first | (with_reducible exact Below.refl _ _) | (with_reducible assumption) | (with_reducible refine Below.alloc ?_ ?_ _) | (with_reducible refine Below.setCell ?_ ?_ _) | (with_reducible refine Below.drew ?_) | (with_reducible refine Below.via (by assumption) ?_ ?_) | go_size))⟩

set_option maxRecDepth 100000 in
set_option maxHeartbeats 1600000 in
theorem SlopeWhole_spec (v : Value) (zs : List Int) (w : World) (hv : RdI w v zs) (hl : zs.length ≤ 1099511627776) : Calls Try.prog 114 #[.agg #[v]] w (RWB (slopeR zs) w) := by
  have Hv := Lib.hid hv
  obtain ⟨ao, cap, rfl⟩ := hv.shape
  clear hv
  cases hq : validB zs
  · have Ho := Lib.hid (show slopeR zs = ([], false) by rw [slopeR, if_neg (by rw [hq]; simp)])
    go_enter Try.func114, Try.ntmps114
    go_wp2_with fail
    (go_at_call 65; ((with_reducible refine (is_spec _ _ zs _ (by go_simp) (Hv.out.below (by (repeat' (first | (with_reducible exact Below.refl _ _) | (with_reducible assumption) | (with_reducible refine Below.alloc ?_ ?_ _) | (with_reducible refine Below.setCell ?_ ?_ _) | (with_reducible refine Below.drew ?_) | (with_reducible refine Below.via (by assumption) ?_ ?_) | go_size)))) hl).mono ?_); rintro e w' ⟨rfl, rfl⟩))
    go_wp2_with fail
    (try simp only [Exit.inBlock, Exit.then]); refine bodyPost_ret (by simp [results, Try.results114, go_sem, *]; try rfl) rfl ?_
    rw [Ho.out]
    exact ⟨_, rfl, OwI.nil _ _, by (repeat' (first | (with_reducible exact Below.refl _ _) | (with_reducible assumption) | (with_reducible refine Below.alloc ?_ ?_ _) | (with_reducible refine Below.setCell ?_ ?_ _) | (with_reducible refine Below.drew ?_) | (with_reducible refine Below.via (by assumption) ?_ ?_) | go_size))⟩
  · have Ho := Lib.hid (show slopeR zs = giveF (trimS (slopeZ zs)) by rw [slopeR, if_pos hq])
    have HV := Lib.hid (validB_iff.1 hq)
    have hl17 := HV.out.len
    have htl := trimS_len (zs := slopeZ zs) (by rw [slope_len]; omega)
    have htt := trimS_trd (slopeZ zs)
    go_enter Try.func114, Try.ntmps114
    go_wp2_with fail
    (go_at_call 65; ((with_reducible refine (is_spec _ _ zs _ (by go_simp) (Hv.out.below (by (repeat' (first | (with_reducible exact Below.refl _ _) | (with_reducible assumption) | (with_reducible refine Below.alloc ?_ ?_ _) | (with_reducible refine Below.setCell ?_ ?_ _) | (with_reducible refine Below.drew ?_) | (with_reducible refine Below.via (by assumption) ?_ ?_) | go_size)))) hl).mono ?_); rintro e w' ⟨rfl, rfl⟩))
    go_wp2_with fail
    clear hq
    (go_at_call 138; ((with_reducible refine (slope_spec _ zs _ (Hv.out.below (by (repeat' (first | (with_reducible exact Below.refl _ _) | (with_reducible assumption) | (with_reducible refine Below.alloc ?_ ?_ _) | (with_reducible refine Below.setCell ?_ ?_ _) | (with_reducible refine Below.drew ?_) | (with_reducible refine Below.via (by assumption) ?_ ?_) | go_size)))) HV.out).mono ?_); rintro e w2 ⟨v2, rfl, ho2, hb2⟩))
    obtain ⟨c2, f2⟩ := bcell hb2
    have z2 := hb2.size
    simp only [World.size_alloc] at z2
    have l2 : w.heap.size + 1 < w2.heap.size := by omega
    have Ho2 := Lib.hid ho2
    obtain ⟨p2, n2, rfl⟩ := ho2.rd.shape
    clear ho2
    have Htr := Lib.hid htt.trimS
    generalize trimS (slopeZ zs) = T at *
    go_wp2_with fail
    (go_at_call 66; ((with_reducible refine (give_spec _ T _ Ho2.out.rd (by omega)).mono ?_); rintro e w3 ⟨v3, rfl, ho3, hb3⟩))
    rw [Htr.out] at ho3
    rw [Htr.out]
    obtain ⟨c3, f3⟩ := bcell hb3
    have z3 := hb3.size
    have l3 : w.heap.size + 1 < w3.heap.size := by omega
    have Ho3 := Lib.hid ho3
    obtain ⟨p3, n3, rfl⟩ := ho3.rd.shape
    clear ho3
    generalize giveF T = R at *
    go_wp2_with fail
    (try simp only [Exit.inBlock, Exit.then]); refine bodyPost_ret (by simp [results, Try.results114, go_sem, *]; try rfl) rfl ?_
    rw [Ho.out]
    exact ⟨_, rfl, OwI.mono (B := w2.heap.size) (OwI.setCell Ho3.out (by show w.heap.size + 1 < _; omega) _) (by omega), by (repeat' (first | (with_reducible exact Below.refl _ _) | (with_reducible assumption) | (with_reducible refine Below.alloc ?_ ?_ _) | (with_reducible refine Below.setCell ?_ ?_ _) | (with_reducible refine Below.drew ?_) | (with_reducible refine Below.via (by assumption) ?_ ?_) | go_size))⟩

end Go.Proofs.Ytlnjkjogedbhfaa
