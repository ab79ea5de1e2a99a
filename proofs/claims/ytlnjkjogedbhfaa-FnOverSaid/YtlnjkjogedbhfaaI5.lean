/- Remainders, lists of them, inverses. Conditions: lengths of at most 2^40, numbers of at most 10^15. -/
import Derived.Test.YtlnjkjogedbhfaaI4
namespace Go.Proofs.Ytlnjkjogedbhfaa
open Go Go.RowKit
set_option linter.unusedSimpArgs false
set_option linter.unusedVariables false

theorem tmod_rest {n m : Int} (h : 0 < m) : (n.tmod m + m).tmod m = n % m := by
  have h1 := Int.tmod_eq_emod (a := n) (b := m)
  by_cases hn : 0 ≤ n ∨ m ∣ n
  · rw [if_pos hn] at h1
    have h2 : 0 ≤ n % m := Int.emod_nonneg n (by omega)
    rw [show n.tmod m = n % m by omega, Int.tmod_eq_emod_of_nonneg (by omega), Int.add_emod_right, Int.emod_emod]
  · rw [if_neg hn] at h1
    have h2 : 0 ≤ n % m := Int.emod_nonneg n (by omega)
    have h3 : n % m < m := Int.emod_lt_of_pos n h
    rw [h1, show ((m.natAbs : Nat) : Int) = m by omega, Int.tmod_eq_emod_of_nonneg (by omega)]
    rw [show n % m - m + m = n % m by omega, Int.emod_emod]
theorem tmod_small {n m : Int} (h : 0 < m) : -m < n.tmod m ∧ n.tmod m < m := by
  have h1 := Int.tmod_eq_emod (a := n) (b := m)
  have h2 : 0 ≤ n % m := Int.emod_nonneg n (by omega)
  have h3 : n % m < m := Int.emod_lt_of_pos n h
  have h4 : n % m = 0 ↔ m ∣ n := (Int.dvd_iff_emod_eq_zero).symm
  by_cases hn : 0 ≤ n ∨ m ∣ n
  · rw [if_pos hn] at h1
    omega
  · rw [if_neg hn] at h1
    have h5 : n % m ≠ 0 := fun h => hn (.inr (h4.1 h))
    omega
/-- All terms lie within a bound. -/
def BdI (M : Int) (zs : List Int) : Prop := ∀ i, -M ≤ zs.getD i 0 ∧ zs.getD i 0 ≤ M
def modsZ (m : Int) (zs : List Int) : List Int := zs.map (· % m)

theorem rest_impl (n m : Int) (w : World) (hm : 0 < m) (hm2 : m ≤ 1000000) (h1 : -1000000000000000 ≤ n) (h2 : n ≤ 1000000000000000) : Calls Try.prog 85 #[.int .i64 n, .int .i64 m] w fun e w' => e = .returned (.int .i64 (n % m)) ∧ w = w' := by
  have h3 := tmod_small (n := n) hm
  have h4 := Lib.hid (tmod_rest (n := n) hm)
  have h5 : m ≠ 0 := by omega
  go_enter Try.func85, Try.ntmps85
  go_wp2
  go_ret
  exact ⟨congrArg (fun z => Ending.returned (.int .i64 z)) ((Int.tmod_eq_emod_of_nonneg (by omega)).symm.trans h4.out), rfl⟩

theorem mod_spec (n m : Int) (w : World) (hm : 0 < m) (hm2 : m ≤ 1000000) (h1 : -1000000000000000 ≤ n) (h2 : n ≤ 1000000000000000) : Calls Try.prog 73 #[.int .i64 n, .int .i64 m] w fun e w' => e = .returned (.int .i64 (n % m)) ∧ w = w' := by
  have h3 := tmod_small (n := n) hm
  have h4 := Lib.hid (tmod_rest (n := n) hm)
  have h5 : m ≠ 0 := by omega
  go_enter Try.func73, Try.ntmps73
  go_wp2
  go_ret
  exact ⟨congrArg (fun z => Ending.returned (.int .i64 z)) ((Int.tmod_eq_emod_of_nonneg (by omega)).symm.trans h4.out), rfl⟩

theorem trimN_map_le (zs : List Int) : trimN zs ≤ zs.length := trimN_le zs
theorem modsZ_length (m : Int) (zs : List Int) : (modsZ m zs).length = zs.length := by simp [modsZ]

set_option maxRecDepth 100000 in
set_option maxHeartbeats 400000 in
theorem mods_spec (v : Value) (zs : List Int) (m : Int) (w : World) (hv : RdI w v zs) (hl : zs.length ≤ 1099511627775) (hb : BdI 1000000000000000 zs) (hm : 0 < m) (hm2 : m ≤ 1000000) : Calls Try.prog 71 #[v, .int .i64 m] w (RL (trimS (modsZ m zs)) w) := by
  have Hv := Lib.hid hv
  obtain ⟨ao, cap, rfl⟩ := hv.shape
  clear hv
  go_enter Try.func71, Try.ntmps71
  go_wp2
  go_loopw [5, 10] (fun ov i wr => ∃ k : Nat, k ≤ zs.length ∧ i = .int .i64 k ∧ RowI wr w.heap.size ov ((zs.take k).map (· % m)) ∧ Below w.heap.size w wr ) (fun _ i _ => zs.length - (intOf i).toNat)
  case atStart => exact ⟨0, Nat.zero_le _, rfl, RowI.empty w, by (repeat' (first | (with_reducible exact Below.refl _ _) | (with_reducible assumption) | (with_reducible refine Below.alloc ?_ ?_ _) | (with_reducible refine Below.setCell ?_ ?_ _) | (with_reducible refine Below.drew ?_) | (with_reducible refine Below.via (by assumption) ?_ ?_) | go_size))⟩
  case round =>
    obtain ⟨k, hk, rfl, hrow, hbel ⟩ := hrel
    by_cases hlt : k < zs.length
    · have hz := hb k
      have hne : zs ≠ [] := by rintro rfl; simp at hlt
      obtain ⟨b, off, cap', hve, hbs, hc⟩ := (Hv.out.below hbel).open hne
      simp only [Value.slice.injEq] at hve
      obtain ⟨rfl, _, rfl⟩ := hve
      have c1 := hc k hlt
      have hsz := hbel.size
      have Hn := Lib.hid (show (zs.take k).map (· % m) ++ [zs.getD k 0 % m] = (zs.take (k + 1)).map (· % m) by rw [List.take_succ_eq_append_getElem hlt, List.map_append]; simp only [List.map_cons, List.map_nil, List.getD, List.getElem?_eq_getElem hlt, Option.getD_some])
      have hlen : ((zs.take k).map (· % m)).length ≤ 1099511627776 := by simp; omega
      clear hc
      generalize zs.getD k 0 = z at *
      go_wp2_with (first | (go_at_call 73; go_must (refine (mod_spec _ _ _ (by omega) (by omega) (by omega) (by omega)).mono ?_); rintro e w' ⟨rfl, rfl⟩) | (at_builtin; refine wpList_pushI hrow rfl _ _ rfl int64S_under hlen (by first | omega | (simp only [World.size_alloc]; omega)) rfl rfl ?_; intro v1 w1 hr1 hb1))
      go_roundw
      case rel => exact ⟨k + 1, by omega, by go_num, by rw [← Hn.out]; exact hr1, hbel.trans (hb1.mono (by omega)) ⟩
      case measure => simp [intOf]; omega
    · obtain rfl : k = zs.length := by omega
      rw [List.take_length] at hrow
      have hsz := hbel.size
      have C := Lib.hid (trim_spec _ (modsZ m zs) wr hrow.own.rd (by rw [modsZ_length]; omega))
      go_wp2_with (go_at_call 74; go_must (refine (C.out).mono ?_); rintro e w' ⟨v1, rfl, ho1, hb1⟩)
      go_ret
      exact ⟨_, rfl, ho1.mono hbel.size, by (repeat' (first | (with_reducible exact Below.refl _ _) | (with_reducible assumption) | (with_reducible refine Below.alloc ?_ ?_ _) | (with_reducible refine Below.setCell ?_ ?_ _) | (with_reducible refine Below.drew ?_) | (with_reducible refine Below.via (by assumption) ?_ ?_) | go_size))⟩

set_option maxRecDepth 100000 in
set_option maxHeartbeats 400000 in
theorem over_impl (v : Value) (zs : List Int) (m : Int) (w : World) (hv : RdI w v zs) (hl : zs.length ≤ 1099511627775) (hb : BdI 1000000000000000 zs) (hm : 0 < m) (hm2 : m ≤ 1000000) : Calls Try.prog 83 #[v, .int .i64 m] w fun e w' => ∃ v', e = .returned (.agg #[v']) ∧ OwI w' w.heap.size v' (trimZ (modsZ m zs)) ∧ Below w.heap.size w w' := by
  have Hv := Lib.hid hv
  obtain ⟨ao, cap, rfl⟩ := hv.shape
  clear hv
  go_enter Try.func83, Try.ntmps83
  go_wp2
  go_loopw [5, 11] (fun ov i wr => ∃ k : Nat, k ≤ zs.length ∧ i = .int .i64 k ∧ RowI wr (w.heap.size + 1) ov ((zs.take k).map (· % m)) ∧ Below w.heap.size w wr  ∧ wr.cell? ⟨w.heap.size, 0, none⟩ = some (.slice none 0 0) ∧ wr.frozen? ⟨w.heap.size, 0, none⟩ = false ∧ w.heap.size < wr.heap.size) (fun _ i _ => zs.length - (intOf i).toNat)
  case atStart => exact ⟨0, Nat.zero_le _, rfl, by simpa using RowI.empty (w.alloc (.cells #[.slice none 0 0] 27)), by (repeat' (first | (with_reducible exact Below.refl _ _) | (with_reducible assumption) | (with_reducible refine Below.alloc ?_ ?_ _) | (with_reducible refine Below.setCell ?_ ?_ _) | (with_reducible refine Below.drew ?_) | (with_reducible refine Below.via (by assumption) ?_ ?_) | go_size)), by go_simp, by go_simp, by simp; omega⟩
  case round =>
    obtain ⟨k, hk, rfl, hrow, hbel , hcell, hfr, hgt⟩ := hrel
    by_cases hlt : k < zs.length
    · have hz := hb k
      have hne : zs ≠ [] := by rintro rfl; simp at hlt
      obtain ⟨b, off, cap', hve, hbs, hc⟩ := (Hv.out.below hbel).open hne
      simp only [Value.slice.injEq] at hve
      obtain ⟨rfl, _, rfl⟩ := hve
      have c1 := hc k hlt
      have hsz := hbel.size
      have Hn := Lib.hid (show (zs.take k).map (· % m) ++ [zs.getD k 0 % m] = (zs.take (k + 1)).map (· % m) by rw [List.take_succ_eq_append_getElem hlt, List.map_append]; simp only [List.map_cons, List.map_nil, List.getD, List.getElem?_eq_getElem hlt, Option.getD_some])
      have hlen : ((zs.take k).map (· % m)).length ≤ 1099511627776 := by simp; omega
      clear hc
      generalize zs.getD k 0 = z at *
      go_wp2_with (first | (go_at_call 85; go_must (refine (rest_impl _ _ _ (by omega) (by omega) (by omega) (by omega)).mono ?_); rintro e w' ⟨rfl, rfl⟩) | (at_builtin; refine wpList_pushI hrow rfl _ _ rfl int64S_under hlen (by first | omega | (simp only [World.size_alloc]; omega)) rfl rfl ?_; intro v1 w1 hr1 hb1))
      go_roundw
      case rel => exact ⟨k + 1, by omega, by go_num, by rw [← Hn.out]; exact hr1, hbel.trans (hb1.mono (by omega)) , (hb1.cell (p := ⟨w.heap.size, 0, none⟩) (by simp)).trans hcell, (hb1.frozen (p := ⟨w.heap.size, 0, none⟩) (by simp)).trans hfr, Nat.lt_of_lt_of_le hgt hb1.size⟩
      case measure => simp [intOf]; omega
    · obtain rfl : k = zs.length := by omega
      rw [List.take_length] at hrow
      have C := Lib.hid (whole_impl _ (modsZ m zs) wr (w.heap.size + 1) hrow.own (by rw [modsZ_length]; omega))
      have hsz := hbel.size
      have lsz : w.heap.size < wr.heap.size := by omega
      go_wp2_with (go_at_call 86; go_must (refine (C.out).mono ?_); rintro e w' ⟨v1, rfl, ho1, hb1⟩; obtain ⟨chb1, fhb1⟩ := bcell hb1; have zhb1 := hb1.size; (try simp only [World.size_alloc, World.size_setCell, World.size_drew] at zhb1); (try have lhb1 : w.heap.size < w'.heap.size := by omega); obtain ⟨ao1, cap1, rfl⟩ := ho1.rd.shape; have Ho := Lib.hid ho1; clear ho1)
      (try simp only [Exit.inBlock, Exit.then]); refine bodyPost_ret (by simp [results, Try.results83, go_sem, *]; try rfl) rfl ?_
      refine ⟨_, rfl, OwI.mono (B := w.heap.size + 1) (OwI.setCell Ho.out ?_ _) (by omega), by (repeat' (first | (with_reducible exact Below.refl _ _) | (with_reducible assumption) | (with_reducible refine Below.alloc ?_ ?_ _) | (with_reducible refine Below.setCell ?_ ?_ _) | (with_reducible refine Below.drew ?_) | (with_reducible refine Below.via (by assumption) ?_ ?_) | go_size))⟩
      show w.heap.size < w.heap.size + 1
      omega

end Go.Proofs.Ytlnjkjogedbhfaa
