/- Monic lists and greatest common ones over a prime: the walks. Conditions: terms are remainders of a small prime, lengths of at most 100. -/
import Derived.Test.YtlnjkjogedbhfaaI11
namespace Go.Proofs.Ytlnjkjogedbhfaa
open Go Go.RowKit
set_option linter.unusedSimpArgs false
set_option linter.unusedVariables false

/-- A list that is read, none of whose cells lies in the blocks from 'lo' on below 'hi'. -/
def RdO (w : World) (lo hi : Nat) (v : Value) (zs : List Int) : Prop := RdI w v zs ∧ ∀ p n c, v = .slice (some p) n c → p.block < lo ∨ hi ≤ p.block
theorem RdO.below {w w' : World} {lo hi : Nat} {v : Value} {zs : List Int} (h : RdO w lo hi v zs) (hb : Below w.heap.size w w') : RdO w' lo hi v zs := ⟨h.1.below hb, h.2⟩
theorem RdO.rd {w : World} {lo hi : Nat} {v : Value} {zs : List Int} (h : RdO w lo hi v zs) : RdI w v zs := h.1
theorem RdO.drew {w : World} {lo hi : Nat} {v : Value} {zs : List Int} (h : RdO w lo hi v zs) : RdO w.drew lo hi v zs := h.below ((Below.refl _ _).drew)
theorem RdO.ofOld {w w' : World} {lo hi : Nat} {v : Value} {zs : List Int} (h : RdI w v zs) (hn : zs ≠ []) (hb : Below w.heap.size w w') (hl : w.heap.size ≤ lo) : RdO w' lo hi v zs := by
  refine ⟨h.below hb, fun p n c hv => .inl ?_⟩
  obtain ⟨b, off, cap, rfl, hb2, _⟩ := h.open hn
  simp only [Value.slice.injEq, Option.some.injEq] at hv
  rw [← hv.1]
  exact Nat.lt_of_lt_of_le hb2 hl
theorem RdO.ofOwn {w : World} {B lo hi : Nat} {v : Value} {zs : List Int} (h : OwI w B v zs) (hB : hi ≤ B) : RdO w lo hi v zs := by
  refine ⟨h.rd, fun p n c hv => .inr ?_⟩
  rcases h with ⟨rfl, _⟩ | ⟨g, cap, cur, rfl, h2, _⟩
  · simp at hv
  · simp only [Value.slice.injEq, Option.some.injEq] at hv
    rw [← hv.1]
    exact Nat.le_trans hB h2
theorem RdO.setCell {w : World} {lo hi : Nat} {v : Value} {zs : List Int} (h : RdO w lo hi v zs) {p : Addr} (h1 : lo ≤ p.block) (h2 : p.block < hi) (u : Value) : RdO (w.setCell p u) lo hi v zs := by
  refine ⟨?_, h.2⟩
  obtain ⟨ao, cap, rfl, hcp, hr⟩ := h.1
  refine ⟨ao, cap, rfl, hcp, ?_⟩
  rcases hr with hr | ⟨b, off, rfl, hc⟩
  · exact .inl hr
  · have h3 := h.2 _ _ _ rfl
    refine .inr ⟨b, off, rfl, fun i hi => ?_⟩
    rw [World.cell?_of_block (w := w) (Below.heap_setCell _ _ _ _ (by simp only at h3 ⊢; omega))]
    exact hc i hi
theorem RdO.open {w : World} {lo hi : Nat} {v : Value} {zs : List Int} (h : RdO w lo hi v zs) (hn : zs ≠ []) : ∃ b off cap, v = .slice (some ⟨b, off, none⟩) zs.length cap ∧ b < w.heap.size ∧ (b < lo ∨ hi ≤ b) ∧ ∀ i, i < zs.length → w.cell? ⟨b, off + i, none⟩ = some (.int .i64 (zs.getD i 0)) := by
  obtain ⟨b, off, cap, rfl, hb, hc⟩ := h.1.open hn
  exact ⟨b, off, cap, rfl, hb, h.2 _ _ _ rfl, hc⟩

theorem RowI.emptyB {W : World} {B s : Nat} {E : Nat → Int} (h : s = W.heap.size) (hB : B ≤ s) : RowI (W.alloc (.cells #[] 2)) B (.slice (some ⟨s, 0, none⟩) 0 0) (buildZ E 0) := by
  subst h
  exact RowI.mono (RowI.empty W) hB

set_option maxRecDepth 100000 in
set_option maxHeartbeats 800000 in
theorem monic_impl (v : Value) (zs : List Int) (m : Int) (w : World) (hv : RdI w v zs) (hne : zs ≠ []) (hl : zs.length ≤ 100) (hov : OvI m zs) (hm : primeB m = true) : Calls Try.prog 119 #[.agg #[v], .int .i64 m] w (RW (monicF m zs) w) := by
  have hmp := primeB_bd hm
  have hn1 : 0 < zs.length := List.length_pos_iff.2 hne
  obtain ⟨b, off, cap, rfl, hb, hc⟩ := hv.open hne
  have Hc := Lib.hid (fun (w' : World) (h : Below w.heap.size w w') i (hi : i < zs.length) => (h.cell (p := ⟨b, off + i, none⟩) hb).trans (hc i hi))
  have hlz : 0 ≤ lastZ zs ∧ lastZ zs < m := hov (zs.length - 1)
  have Hl := Lib.hid (show zs.getD (zs.length - 1) 0 = lastZ zs from rfl)
  have hi0 := invZ_bd (lastZ zs) m (by omega)
  have Hd := Lib.hid (show monicF m zs = trimZ (buildZ (fun k => (zs.getD k 0 * invZ (lastZ zs) m) % m) zs.length) by rw [build_map (fun z => (z * invZ (lastZ zs) m) % m)]; rfl)
  generalize lastZ zs = lz at *
  clear hc hv
  go_enter Try.func119, Try.ntmps119
  go_wp2_with fail
  (go_at_call 80; ((with_reducible refine (last_exact b off _ cap lz _ hn1 (by omega) (by simp; omega) (by rw [← Hl.out]; exact Hc.out _ (by (repeat' (first | (with_reducible exact Below.refl _ _) | (with_reducible assumption) | (with_reducible refine Below.alloc ?_ ?_ _) | (with_reducible refine Below.setCell ?_ ?_ _) | (with_reducible refine Below.drew ?_) | (with_reducible refine Below.via (by assumption) ?_ ?_) | go_size))) _ (by omega))).mono ?_); rintro e w' ⟨rfl, rfl⟩))
  go_wp2_with fail
  (go_at_call 133; ((with_reducible refine (inverse_impl _ _ _ (by omega) (by omega) (by omega) (by omega)).mono ?_); rintro e w' ⟨rfl, rfl⟩))
  go_wp2
  go_loopw [6, 17] (fun ov i wr => ∃ k : Nat, k ≤ zs.length ∧ i = .int .i64 k ∧ RowI wr (w.heap.size + 2) ov (buildZ (fun k => (zs.getD k 0 * invZ lz m) % m) k) ∧ Below w.heap.size w wr ∧ wr.cell? ⟨w.heap.size + 1, 0, none⟩ = some (.slice none 0 0) ∧ wr.frozen? ⟨w.heap.size + 1, 0, none⟩ = false ∧ w.heap.size + 1 < wr.heap.size) (fun _ i _ => zs.length - (intOf i).toNat)
  case atStart => exact ⟨0, Nat.zero_le _, rfl, RowI.emptyB (by simp) (by simp <;> omega), by (repeat' (first | (with_reducible exact Below.refl _ _) | (with_reducible assumption) | (with_reducible refine Below.alloc ?_ ?_ _) | (with_reducible refine Below.setCell ?_ ?_ _) | (with_reducible refine Below.drew ?_) | (with_reducible refine Below.via (by assumption) ?_ ?_) | go_size)), by go_simp, by go_simp, by simp <;> omega⟩
  case round =>
    obtain ⟨k, hk, rfl, hrow, hbel, hcell, hfr, hgt⟩ := hrel
    by_cases hlt : k < zs.length
    · have hsz := hbel.size
      have hlen : (buildZ (fun k => (zs.getD k 0 * invZ lz m) % m) k).length ≤ 1099511627776 := by rw [buildZ_length]; omega
      have Hn := Lib.hid (show buildZ (fun k => (zs.getD k 0 * invZ lz m) % m) k ++ [(zs.getD k 0 * invZ lz m) % m] = buildZ (fun k => (zs.getD k 0 * invZ lz m) % m) (k + 1) from buildZ_succ _ k)
      have c1 := Hc.out wr hbel k hlt
      have hz := hov k
      have hp := mul_small (x := zs.getD k 0) (k := invZ lz m) (by omega) (by omega) (by omega) (by omega)
      generalize zs.getD k 0 = z at *
      generalize invZ lz m = inv at *
      go_wp2_with (first | (go_at_call 85; go_must (refine (rest_impl _ _ _ (by omega) (by omega) (by omega) (by omega)).mono ?_); rintro e w' ⟨rfl, rfl⟩) | (at_builtin; refine wpList_pushI hrow rfl _ _ rfl int64S_under hlen (by first | omega | (simp only [World.size_alloc]; omega)) rfl rfl ?_; intro v1 w1 hr1 hb1))
      go_roundw
      case rel => exact ⟨k + 1, by omega, by go_num, by rw [← Hn.out]; exact hr1, hbel.trans (hb1.mono (by omega)), (hb1.cell (p := ⟨w.heap.size + 1, 0, none⟩) (by simp)).trans hcell, (hb1.frozen (p := ⟨w.heap.size + 1, 0, none⟩) (by simp)).trans hfr, Nat.lt_of_lt_of_le hgt (by have h := hb1.size; omega)⟩
      case measure => simp [intOf]; omega
    · obtain rfl : k = zs.length := by omega
      have hsz := hbel.size
      have Hrow := Lib.hid hrow
      clear hrow
      go_wp2_with fail
      (go_at_call 86; ((with_reducible refine (whole_impl _ _ _ (w.heap.size + 2) Hrow.out.own (by rw [buildZ_length]; omega)).mono ?_); rintro e w' ⟨v1, rfl, ho1, hb1⟩))
      obtain ⟨chb1, fhb1⟩ := bcell hb1
      have zhb1 := hb1.size
      have lhb1 : w.heap.size + 1 < w'.heap.size := by omega
      obtain ⟨ao1, cap1, rfl⟩ := ho1.rd.shape
      have Ho := Lib.hid ho1
      clear ho1
      go_wp2_with fail
      (try simp only [Exit.inBlock, Exit.then]); refine bodyPost_ret (by simp [results, Try.results119, go_sem, *]; try rfl) rfl ?_
      rw [Hd.out]
      exact ⟨_, rfl, OwI.mono (B := w.heap.size + 2) (OwI.setCell Ho.out (by show w.heap.size + 1 < _; omega) _) (by omega), by (repeat' (first | (with_reducible exact Below.refl _ _) | (with_reducible assumption) | (with_reducible refine Below.alloc ?_ ?_ _) | (with_reducible refine Below.setCell ?_ ?_ _) | (with_reducible refine Below.drew ?_) | (with_reducible refine Below.via (by assumption) ?_ ?_) | go_size))⟩

end Go.Proofs.Ytlnjkjogedbhfaa
