/- Primitive lists: plain laws and walks. Conditions: numbers of at most 10^6, lengths of at most 2^40. -/
import Derived.Test.YtlnjkjogedbhfaaI20
import Derived.Test.YtlnjkjogedbhfaaI15
namespace Go.Proofs.Ytlnjkjogedbhfaa
open Go Go.RowKit
set_option linter.unusedSimpArgs false
set_option linter.unusedVariables false

theorem contN_dvd {zs : List Int} : ∀ (k i : Nat), i < k → contN zs k ∣ zs.getD i 0
  | 0, i, h => absurd h (by omega)
  | k + 1, i, h => by
    by_cases e : i = k
    · subst e; exact Int.gcd_dvd_right _ _
    · exact Int.dvd_trans (Int.gcd_dvd_left _ _) (contN_dvd k i (by omega))
theorem contZ_dvd {zs : List Int} (i : Nat) : contZ zs ∣ zs.getD i 0 := by
  by_cases h : i < zs.length
  · exact contN_dvd _ _ h
  · rw [List.getD, List.getElem?_eq_none (by omega)]; exact Int.dvd_zero _
/-- What the terms are divided by. -/
def primG (zs : List Int) : Int := if lastZ zs < 0 then - contZ zs else contZ zs
def primZ (zs : List Int) : List Int := if contZ zs = 0 then [0] else zs.map fun z => z.tdiv (primG zs)
theorem primG_ne {zs : List Int} (h : contZ zs ≠ 0) : primG zs ≠ 0 := by unfold primG; split <;> omega
theorem primG_dvd {zs : List Int} (i : Nat) : primG zs ∣ zs.getD i 0 := by
  unfold primG
  split
  · exact Int.neg_dvd.2 (contZ_dvd i)
  · exact contZ_dvd i
theorem contZ_zero {zs : List Int} (h : contZ zs = 0) (i : Nat) : zs.getD i 0 = 0 := by
  have := contZ_dvd (zs := zs) i
  rw [h] at this
  exact Int.zero_dvd.1 this
theorem Trd.cont_zero {zs : List Int} (ht : Trd zs) (h : contZ zs = 0) : zs = [0] := by
  have h0 := contZ_zero h
  rcases ht.2 with h1 | h1
  · match zs, ht.1, h1, h0 0 with
    | [z], _, _, h2 => simp at h2; rw [h2]
  · exact absurd (h0 _) h1
theorem tdiv_bd {z g M : Int} (h : -M ≤ z ∧ z ≤ M) : -M ≤ z.tdiv g ∧ z.tdiv g ≤ M := by
  have h3 : (z.tdiv g).natAbs ≤ z.natAbs := by rw [Int.natAbs_tdiv]; exact Nat.div_le_self _ _
  omega
theorem prim_get {zs : List Int} (hc : contZ zs ≠ 0) (i : Nat) : (primZ zs).getD i 0 = (zs.getD i 0).tdiv (primG zs) := by
  rw [primZ, if_neg hc]
  simp only [List.getD, List.getElem?_map]
  cases zs[i]? <;> simp
theorem prim_length {zs : List Int} (ht : Trd zs) : (primZ zs).length = zs.length := by
  unfold primZ
  split
  · rename_i h; rw [ht.cont_zero h]
  · simp
theorem prim_bd {zs : List Int} {M : Int} (hM : 0 ≤ M) (h : BdI M zs) : BdI M (primZ zs) := fun i => by
  by_cases hc : contZ zs = 0
  · rw [primZ, if_pos hc]; cases i <;> simp <;> omega
  · rw [prim_get hc]; exact tdiv_bd (h i)
theorem prim_trd {zs : List Int} (ht : Trd zs) : Trd (primZ zs) := by
  refine ⟨by rw [prim_length ht]; exact ht.1, ?_⟩
  rw [prim_length ht]
  rcases ht.2 with h | h
  · exact .inl h
  · right
    have hc : contZ zs ≠ 0 := fun hc => h (contZ_zero hc _)
    rw [prim_get hc]
    obtain ⟨c, hc2⟩ := primG_dvd (zs := zs) (zs.length - 1)
    rw [hc2, Int.mul_tdiv_cancel_left _ (primG_ne hc)]
    intro h2
    rw [h2, Int.mul_zero] at hc2
    exact h hc2
theorem prim_zero {zs : List Int} (ht : Trd zs) (h : zeroB zs = false) : zeroB (primZ zs) = false := by
  cases h2 : zeroB (primZ zs)
  · rfl
  · exfalso
    have h3 := zeroB_iff.1 h2
    by_cases hc : contZ zs = 0
    · rw [ht.cont_zero hc] at h
      simp [zeroB] at h
    · have h4 := (prim_get hc (zs.length - 1))
      obtain ⟨c, hc2⟩ := primG_dvd (zs := zs) (zs.length - 1)
      rw [hc2, Int.mul_tdiv_cancel_left _ (primG_ne hc), h3] at h4
      have h5 : c = 0 := by rw [← h4]; cases zs.length - 1 <;> simp
      rw [h5, Int.mul_zero] at hc2
      exact ht.last h hc2

set_option maxRecDepth 100000 in
set_option maxHeartbeats 1600000 in
theorem prim_impl (v : Value) (zs : List Int) (w : World) (hv : RdI w v zs) (hne : zs ≠ []) (hl : zs.length ≤ 1099511627775) (hbd : BdI 1000000 zs) : Calls Try.prog 102 #[.agg #[v]] w (RW (primZ zs) w) := by
  have hn1 : 0 < zs.length := List.length_pos_iff.2 hne
  have Hv := Lib.hid hv
  have Hbd := Lib.hid hbd
  obtain ⟨b, off, cap, rfl, hb, hc⟩ := hv.open hne
  have Hc := Lib.hid (fun (w' : World) (h : Below w.heap.size w w') i (hi : i < zs.length) => (h.cell (p := ⟨b, off + i, none⟩) hb).trans (hc i hi))
  have hlz : -1000000 ≤ lastZ zs ∧ lastZ zs ≤ 1000000 := hbd (zs.length - 1)
  have Hl := Lib.hid (show zs.getD (zs.length - 1) 0 = lastZ zs from rfl)
  have hcb := contN_bd (by omega) hbd zs.length
  rw [← contZ] at hcb
  clear hc hv hbd
  have Step := Lib.hid (fun (w1 : World) (hb1 : Below ((w.alloc (.cells #[.slice (some ⟨b, off, none⟩) zs.length cap] 27)).alloc (.cells #[.slice none 0 0] 27)).heap.size ((w.alloc (.cells #[.slice (some ⟨b, off, none⟩) zs.length cap] 27)).alloc (.cells #[.slice none 0 0] 27)) w1) =>
    (show w1.cell? ⟨w.heap.size, 0, none⟩ = some (.slice (some ⟨b, off, none⟩) zs.length cap) ∧ w1.cell? ⟨w.heap.size + 1, 0, none⟩ = some (.slice none 0 0) ∧ w1.frozen? ⟨w.heap.size + 1, 0, none⟩ = false ∧ w.heap.size + 1 < w1.heap.size ∧ Below w.heap.size w w1 from by
      obtain ⟨ch1, fh1⟩ := bcell hb1
      have z1 := hb1.size
      simp only [World.size_alloc] at z1
      exact ⟨by go_simp, by go_simp, by go_simp, by omega, by (repeat' (first | (with_reducible exact Below.refl _ _) | (with_reducible assumption) | (with_reducible refine Below.alloc ?_ ?_ _) | (with_reducible refine Below.setCell ?_ ?_ _) | (with_reducible refine Below.drew ?_) | (with_reducible refine Below.via (by assumption) ?_ ?_) | go_size))⟩))
  by_cases hc0 : contZ zs = 0
  · have Hd := Lib.hid (show primZ zs = [0] by rw [primZ, if_pos hc0])
    have Hc0 := Lib.hid hc0
    clear hc0
    go_enter Try.func102, Try.ntmps102
    go_wp2_with fail
    (go_at_call 101; ((with_reducible refine (content_impl _ zs _ (Hv.out.below (by (repeat' (first | (with_reducible exact Below.refl _ _) | (with_reducible assumption) | (with_reducible refine Below.alloc ?_ ?_ _) | (with_reducible refine Below.setCell ?_ ?_ _) | (with_reducible refine Below.drew ?_) | (with_reducible refine Below.via (by assumption) ?_ ?_) | go_size)))) (by omega) Hbd.out).mono ?_); rintro e w1 ⟨rfl, hb1⟩))
    obtain ⟨x0, x1, y1, l1, b1⟩ := Step.out w1 hb1
    rw [Hc0.out]
    clear hb1
    go_wp2_with fail
    (try simp only [Exit.inBlock, Exit.then]); refine bodyPost_ret (by simp [results, Try.results102, go_sem, *]; try rfl) rfl ?_
    rw [Hd.out]
    exact ⟨_, rfl, OwI.litS (by simp) (by omega), by (repeat' (first | (with_reducible exact Below.refl _ _) | (with_reducible assumption) | (with_reducible refine Below.alloc ?_ ?_ _) | (with_reducible refine Below.setCell ?_ ?_ _) | (with_reducible refine Below.drew ?_) | (with_reducible refine Below.via (by assumption) ?_ ?_) | go_size))⟩
  · have Hd0 := Lib.hid (show primZ zs = zs.map fun z => z.tdiv (primG zs) by rw [primZ, if_neg hc0])
    by_cases hneg : lastZ zs < 0
    · have Hg := Lib.hid (show primG zs = - contZ zs from if_pos hneg)
      have hgn := primG_ne hc0
      have hgb : -1000000 ≤ primG zs ∧ primG zs ≤ 1000000 := by rw [Hg.out]; omega
      generalize primG zs = g at *
      have Hd := Lib.hid (show primZ zs = buildZ (fun k => (zs.getD k 0).tdiv g) zs.length by rw [Hd0.out, build_map (fun z => z.tdiv g)])
      clear Hd0
      go_enter Try.func102, Try.ntmps102
      go_wp2_with fail
      (go_at_call 101; ((with_reducible refine (content_impl _ zs _ (Hv.out.below (by (repeat' (first | (with_reducible exact Below.refl _ _) | (with_reducible assumption) | (with_reducible refine Below.alloc ?_ ?_ _) | (with_reducible refine Below.setCell ?_ ?_ _) | (with_reducible refine Below.drew ?_) | (with_reducible refine Below.via (by assumption) ?_ ?_) | go_size)))) (by omega) Hbd.out).mono ?_); rintro e w1 ⟨rfl, hb1⟩))
      obtain ⟨x0, x1, y1, l1, b1⟩ := Step.out w1 hb1
      clear hb1
      generalize contZ zs = c at *
      generalize lastZ zs = lz at *
      go_wp2_with fail
      (go_at_call 80; ((with_reducible refine (last_exact b off _ cap lz _ hn1 (by omega) (by have := b1.size; omega) (by rw [← Hl.out]; exact Hc.out _ b1 _ (by omega))).mono ?_); rintro e w' ⟨rfl, rfl⟩))
      have hge := Hg.out
      subst hge
      have l0 : w.heap.size < w1.heap.size := by omega
      go_wp2
      generalize hgc : -c = g at *
      go_loopw [4, 23] (fun ov i wr => ∃ k : Nat, k ≤ zs.length ∧ i = .int .i64 k ∧ RowI wr (w.heap.size + 2) ov (buildZ (fun k => (zs.getD k 0).tdiv g) k) ∧ Below w.heap.size w wr ∧ wr.cell? ⟨w.heap.size + 1, 0, none⟩ = some (.slice none 0 0) ∧ wr.frozen? ⟨w.heap.size + 1, 0, none⟩ = false ∧ w.heap.size + 1 < wr.heap.size) (fun _ i _ => zs.length - (intOf i).toNat)
      case atStart => exact ⟨0, Nat.zero_le _, rfl, RowI.emptyB (by simp) (by simp <;> omega), by (repeat' (first | (with_reducible exact Below.refl _ _) | (with_reducible assumption) | (with_reducible refine Below.alloc ?_ ?_ _) | (with_reducible refine Below.setCell ?_ ?_ _) | (with_reducible refine Below.drew ?_) | (with_reducible refine Below.via (by assumption) ?_ ?_) | go_size)), by go_simp, by go_simp, by simp <;> omega⟩
      case round =>
        obtain ⟨k, hk, rfl, hrow, hbel, hcell, hfr, hgt⟩ := hrel
        by_cases hlt : k < zs.length
        · have hsz := hbel.size
          have hlen : (buildZ (fun k => (zs.getD k 0).tdiv g) k).length ≤ 1099511627776 := by rw [buildZ_length]; omega
          have Hn := Lib.hid (show buildZ (fun k => (zs.getD k 0).tdiv g) k ++ [(zs.getD k 0).tdiv g] = buildZ (fun k => (zs.getD k 0).tdiv g) (k + 1) from buildZ_succ _ k)
          have c1 := Hc.out wr hbel k hlt
          have hz := Hbd.out k
          have hp := tdiv_bd (g := g) hz
          have hg0 : ¬ (g = 0) := hgn
          generalize zs.getD k 0 = z at *
          go_wp2_with (at_builtin; refine wpList_pushI hrow rfl _ _ rfl int64S_under hlen (by first | omega | (simp only [World.size_alloc]; omega)) rfl rfl ?_; intro v1 w1 hr1 hb1)
          go_roundw
          case rel => exact ⟨k + 1, by omega, by go_num, by rw [← Hn.out]; exact hr1, hbel.trans (hb1.mono (by omega)), (hb1.cell (p := ⟨w.heap.size + 1, 0, none⟩) (by simp)).trans hcell, (hb1.frozen (p := ⟨w.heap.size + 1, 0, none⟩) (by simp)).trans hfr, Nat.lt_of_lt_of_le hgt (by have h := hb1.size; omega)⟩
          case measure => simp [intOf]; omega
        · obtain rfl : k = zs.length := by omega
          have hsz := hbel.size
          have Hrow := Lib.hid hrow.own
          clear hrow
          obtain ⟨ao1, cap1, hsl⟩ := Hrow.out.rd.shape
          subst hsl
          go_wp2_with fail
          (try simp only [Exit.inBlock, Exit.then]); refine bodyPost_ret (by simp [results, Try.results102, go_sem, *]; try rfl) rfl ?_
          rw [Hd.out]
          exact ⟨_, rfl, OwI.mono (B := w.heap.size + 2) (OwI.setCell Hrow.out (by show w.heap.size + 1 < _; omega) _) (by omega), by (repeat' (first | (with_reducible exact Below.refl _ _) | (with_reducible assumption) | (with_reducible refine Below.alloc ?_ ?_ _) | (with_reducible refine Below.setCell ?_ ?_ _) | (with_reducible refine Below.drew ?_) | (with_reducible refine Below.via (by assumption) ?_ ?_) | go_size))⟩
    · have Hg := Lib.hid (show primG zs = contZ zs from if_neg hneg)
      have hgn := primG_ne hc0
      have hgb : -1000000 ≤ primG zs ∧ primG zs ≤ 1000000 := by rw [Hg.out]; omega
      generalize primG zs = g at *
      have Hd := Lib.hid (show primZ zs = buildZ (fun k => (zs.getD k 0).tdiv g) zs.length by rw [Hd0.out, build_map (fun z => z.tdiv g)])
      clear Hd0
      go_enter Try.func102, Try.ntmps102
      go_wp2_with fail
      (go_at_call 101; ((with_reducible refine (content_impl _ zs _ (Hv.out.below (by (repeat' (first | (with_reducible exact Below.refl _ _) | (with_reducible assumption) | (with_reducible refine Below.alloc ?_ ?_ _) | (with_reducible refine Below.setCell ?_ ?_ _) | (with_reducible refine Below.drew ?_) | (with_reducible refine Below.via (by assumption) ?_ ?_) | go_size)))) (by omega) Hbd.out).mono ?_); rintro e w1 ⟨rfl, hb1⟩))
      obtain ⟨x0, x1, y1, l1, b1⟩ := Step.out w1 hb1
      clear hb1
      generalize contZ zs = c at *
      generalize lastZ zs = lz at *
      go_wp2_with fail
      (go_at_call 80; ((with_reducible refine (last_exact b off _ cap lz _ hn1 (by omega) (by have := b1.size; omega) (by rw [← Hl.out]; exact Hc.out _ b1 _ (by omega))).mono ?_); rintro e w' ⟨rfl, rfl⟩))
      have hge := Hg.out
      subst hge
      have l0 : w.heap.size < w1.heap.size := by omega
      go_wp2
      skip
      go_loopw [4, 23] (fun ov i wr => ∃ k : Nat, k ≤ zs.length ∧ i = .int .i64 k ∧ RowI wr (w.heap.size + 2) ov (buildZ (fun k => (zs.getD k 0).tdiv g) k) ∧ Below w.heap.size w wr ∧ wr.cell? ⟨w.heap.size + 1, 0, none⟩ = some (.slice none 0 0) ∧ wr.frozen? ⟨w.heap.size + 1, 0, none⟩ = false ∧ w.heap.size + 1 < wr.heap.size) (fun _ i _ => zs.length - (intOf i).toNat)
      case atStart => exact ⟨0, Nat.zero_le _, rfl, RowI.emptyB (by simp) (by simp <;> omega), by (repeat' (first | (with_reducible exact Below.refl _ _) | (with_reducible assumption) | (with_reducible refine Below.alloc ?_ ?_ _) | (with_reducible refine Below.setCell ?_ ?_ _) | (with_reducible refine Below.drew ?_) | (with_reducible refine Below.via (by assumption) ?_ ?_) | go_size)), by go_simp, by go_simp, by simp <;> omega⟩
      case round =>
        obtain ⟨k, hk, rfl, hrow, hbel, hcell, hfr, hgt⟩ := hrel
        by_cases hlt : k < zs.length
        · have hsz := hbel.size
          have hlen : (buildZ (fun k => (zs.getD k 0).tdiv g) k).length ≤ 1099511627776 := by rw [buildZ_length]; omega
          have Hn := Lib.hid (show buildZ (fun k => (zs.getD k 0).tdiv g) k ++ [(zs.getD k 0).tdiv g] = buildZ (fun k => (zs.getD k 0).tdiv g) (k + 1) from buildZ_succ _ k)
          have c1 := Hc.out wr hbel k hlt
          have hz := Hbd.out k
          have hp := tdiv_bd (g := g) hz
          have hg0 : ¬ (g = 0) := hgn
          generalize zs.getD k 0 = z at *
          go_wp2_with (at_builtin; refine wpList_pushI hrow rfl _ _ rfl int64S_under hlen (by first | omega | (simp only [World.size_alloc]; omega)) rfl rfl ?_; intro v1 w1 hr1 hb1)
          go_roundw
          case rel => exact ⟨k + 1, by omega, by go_num, by rw [← Hn.out]; exact hr1, hbel.trans (hb1.mono (by omega)), (hb1.cell (p := ⟨w.heap.size + 1, 0, none⟩) (by simp)).trans hcell, (hb1.frozen (p := ⟨w.heap.size + 1, 0, none⟩) (by simp)).trans hfr, Nat.lt_of_lt_of_le hgt (by have h := hb1.size; omega)⟩
          case measure => simp [intOf]; omega
        · obtain rfl : k = zs.length := by omega
          have hsz := hbel.size
          have Hrow := Lib.hid hrow.own
          clear hrow
          obtain ⟨ao1, cap1, hsl⟩ := Hrow.out.rd.shape
          subst hsl
          go_wp2_with fail
          (try simp only [Exit.inBlock, Exit.then]); refine bodyPost_ret (by simp [results, Try.results102, go_sem, *]; try rfl) rfl ?_
          rw [Hd.out]
          exact ⟨_, rfl, OwI.mono (B := w.heap.size + 2) (OwI.setCell Hrow.out (by show w.heap.size + 1 < _; omega) _) (by omega), by (repeat' (first | (with_reducible exact Below.refl _ _) | (with_reducible assumption) | (with_reducible refine Below.alloc ?_ ?_ _) | (with_reducible refine Below.setCell ?_ ?_ _) | (with_reducible refine Below.drew ?_) | (with_reducible refine Below.via (by assumption) ?_ ?_) | go_size))⟩

set_option maxRecDepth 100000 in
set_option maxHeartbeats 1600000 in
theorem prim_spec (v : Value) (zs : List Int) (w : World) (hv : RdI w v zs) (hne : zs ≠ []) (hl : zs.length ≤ 1099511627775) (hbd : BdI 1000000 zs) : Calls Try.prog 113 #[v] w (RL (primZ zs) w) := by
  have hn1 : 0 < zs.length := List.length_pos_iff.2 hne
  have Hv := Lib.hid hv
  have Hbd := Lib.hid hbd
  obtain ⟨b, off, cap, rfl, hb, hc⟩ := hv.open hne
  have Hc := Lib.hid (fun (w' : World) (h : Below w.heap.size w w') i (hi : i < zs.length) => (h.cell (p := ⟨b, off + i, none⟩) hb).trans (hc i hi))
  have hlz : -1000000 ≤ lastZ zs ∧ lastZ zs ≤ 1000000 := hbd (zs.length - 1)
  have c0 := hc (zs.length - 1) (by omega)
  rw [← lastZ] at c0
  have hcb := contN_bd (by omega) hbd zs.length
  rw [← contZ] at hcb
  clear hc hv hbd
  by_cases hc0 : contZ zs = 0
  · have Hd := Lib.hid (show primZ zs = [0] by rw [primZ, if_pos hc0])
    have Hc0 := Lib.hid hc0
    clear hc0
    go_enter Try.func113, Try.ntmps113
    go_wp2_with fail
    (go_at_call 136; ((with_reducible refine (content_spec _ zs _ Hv.out (by omega) Hbd.out).mono ?_); rintro e w1 ⟨rfl, rfl⟩))
    rw [Hc0.out]
    go_wp2_with fail
    go_ret
    rw [Hd.out]
    exact ⟨_, rfl, OwI.lit0 w w.heap.size (Nat.le_refl _), by (repeat' (first | (with_reducible exact Below.refl _ _) | (with_reducible assumption) | (with_reducible refine Below.alloc ?_ ?_ _) | (with_reducible refine Below.setCell ?_ ?_ _) | (with_reducible refine Below.drew ?_) | (with_reducible refine Below.via (by assumption) ?_ ?_) | go_size))⟩
  · have Hd0 := Lib.hid (show primZ zs = zs.map fun z => z.tdiv (primG zs) by rw [primZ, if_neg hc0])
    by_cases hneg : lastZ zs < 0
    · have Hg := Lib.hid (show primG zs = - contZ zs from if_pos hneg)
      have hgn := primG_ne hc0
      have hgb : -1000000 ≤ primG zs ∧ primG zs ≤ 1000000 := by rw [Hg.out]; omega
      generalize primG zs = g at *
      have Hd := Lib.hid (show primZ zs = buildZ (fun k => (zs.getD k 0).tdiv g) zs.length by rw [Hd0.out, build_map (fun z => z.tdiv g)])
      clear Hd0
      go_enter Try.func113, Try.ntmps113
      go_wp2_with fail
      (go_at_call 136; ((with_reducible refine (content_spec _ zs _ Hv.out (by omega) Hbd.out).mono ?_); rintro e w1 ⟨rfl, rfl⟩))
      generalize contZ zs = c at *
      generalize lastZ zs = lz at *
      have hge := Hg.out
      subst hge
      go_wp2
      have hcz : (c == (0 : Int)) = false := by simpa using hc0
      (try rw [hcz])
      generalize hgc : -c = g at *
      go_loopw [4, 23] (fun ov i wr => ∃ k : Nat, k ≤ zs.length ∧ i = .int .i64 k ∧ RowI wr w.heap.size ov (buildZ (fun k => (zs.getD k 0).tdiv g) k) ∧ Below w.heap.size w wr) (fun _ i _ => zs.length - (intOf i).toNat)
      case atStart => exact ⟨0, Nat.zero_le _, rfl, RowI.emptyB (by simp) (by simp <;> omega), by (repeat' (first | (with_reducible exact Below.refl _ _) | (with_reducible assumption) | (with_reducible refine Below.alloc ?_ ?_ _) | (with_reducible refine Below.setCell ?_ ?_ _) | (with_reducible refine Below.drew ?_) | (with_reducible refine Below.via (by assumption) ?_ ?_) | go_size))⟩
      case round =>
        obtain ⟨k, hk, rfl, hrow, hbel⟩ := hrel
        by_cases hlt : k < zs.length
        · have hsz := hbel.size
          have hlen : (buildZ (fun k => (zs.getD k 0).tdiv g) k).length ≤ 1099511627776 := by rw [buildZ_length]; omega
          have Hn := Lib.hid (show buildZ (fun k => (zs.getD k 0).tdiv g) k ++ [(zs.getD k 0).tdiv g] = buildZ (fun k => (zs.getD k 0).tdiv g) (k + 1) from buildZ_succ _ k)
          have c1 := Hc.out wr hbel k hlt
          have hz := Hbd.out k
          have hp := tdiv_bd (g := g) hz
          have hg0 : ¬ (g = 0) := hgn
          generalize zs.getD k 0 = z at *
          go_wp2_with (at_builtin; refine wpList_pushI hrow rfl _ _ rfl int64S_under hlen (by first | omega | (simp only [World.size_alloc]; omega)) rfl rfl ?_; intro v1 w1 hr1 hb1)
          go_roundw
          case rel => exact ⟨k + 1, by omega, by go_num, by rw [← Hn.out]; exact hr1, hbel.trans (hb1.mono (by omega))⟩
          case measure => simp [intOf]; omega
        · obtain rfl : k = zs.length := by omega
          have hsz := hbel.size
          have Hrow := Lib.hid hrow.own
          clear hrow
          go_wp2_with fail
          go_ret
          rw [Hd.out]
          exact ⟨_, rfl, Hrow.out.mono (by omega), hbel⟩
    · have Hg := Lib.hid (show primG zs = contZ zs from if_neg hneg)
      have hgn := primG_ne hc0
      have hgb : -1000000 ≤ primG zs ∧ primG zs ≤ 1000000 := by rw [Hg.out]; omega
      generalize primG zs = g at *
      have Hd := Lib.hid (show primZ zs = buildZ (fun k => (zs.getD k 0).tdiv g) zs.length by rw [Hd0.out, build_map (fun z => z.tdiv g)])
      clear Hd0
      go_enter Try.func113, Try.ntmps113
      go_wp2_with fail
      (go_at_call 136; ((with_reducible refine (content_spec _ zs _ Hv.out (by omega) Hbd.out).mono ?_); rintro e w1 ⟨rfl, rfl⟩))
      generalize contZ zs = c at *
      generalize lastZ zs = lz at *
      have hge := Hg.out
      subst hge
      go_wp2
      have hcz : (g == (0 : Int)) = false := by simpa using hc0
      (try rw [hcz])
      skip
      go_loopw [4, 23] (fun ov i wr => ∃ k : Nat, k ≤ zs.length ∧ i = .int .i64 k ∧ RowI wr w.heap.size ov (buildZ (fun k => (zs.getD k 0).tdiv g) k) ∧ Below w.heap.size w wr) (fun _ i _ => zs.length - (intOf i).toNat)
      case atStart => exact ⟨0, Nat.zero_le _, rfl, RowI.emptyB (by simp) (by simp <;> omega), by (repeat' (first | (with_reducible exact Below.refl _ _) | (with_reducible assumption) | (with_reducible refine Below.alloc ?_ ?_ _) | (with_reducible refine Below.setCell ?_ ?_ _) | (with_reducible refine Below.drew ?_) | (with_reducible refine Below.via (by assumption) ?_ ?_) | go_size))⟩
      case round =>
        obtain ⟨k, hk, rfl, hrow, hbel⟩ := hrel
        by_cases hlt : k < zs.length
        · have hsz := hbel.size
          have hlen : (buildZ (fun k => (zs.getD k 0).tdiv g) k).length ≤ 1099511627776 := by rw [buildZ_length]; omega
          have Hn := Lib.hid (show buildZ (fun k => (zs.getD k 0).tdiv g) k ++ [(zs.getD k 0).tdiv g] = buildZ (fun k => (zs.getD k 0).tdiv g) (k + 1) from buildZ_succ _ k)
          have c1 := Hc.out wr hbel k hlt
          have hz := Hbd.out k
          have hp := tdiv_bd (g := g) hz
          have hg0 : ¬ (g = 0) := hgn
          generalize zs.getD k 0 = z at *
          go_wp2_with (at_builtin; refine wpList_pushI hrow rfl _ _ rfl int64S_under hlen (by first | omega | (simp only [World.size_alloc]; omega)) rfl rfl ?_; intro v1 w1 hr1 hb1)
          go_roundw
          case rel => exact ⟨k + 1, by omega, by go_num, by rw [← Hn.out]; exact hr1, hbel.trans (hb1.mono (by omega))⟩
          case measure => simp [intOf]; omega
        · obtain rfl : k = zs.length := by omega
          have hsz := hbel.size
          have Hrow := Lib.hid hrow.own
          clear hrow
          go_wp2_with fail
          go_ret
          rw [Hd.out]
          exact ⟨_, rfl, Hrow.out.mono (by omega), hbel⟩

end Go.Proofs.Ytlnjkjogedbhfaa
