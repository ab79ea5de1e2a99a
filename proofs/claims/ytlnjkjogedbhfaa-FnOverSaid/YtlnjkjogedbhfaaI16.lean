/- The greatest common one over a prime: both exported functions. Conditions: lengths of at most 2^40. -/
import Derived.Test.YtlnjkjogedbhfaaI15
namespace Go.Proofs.Ytlnjkjogedbhfaa
open Go Go.RowKit
set_option linter.unusedSimpArgs false
set_option linter.unusedVariables false

theorem commonR_give {m : Int} {a b : List Int} (ha : overB m a = true) (hb : overB m b = true) : giveF (trimS (monicS m (gcdZ m a b))) = (monicS m (gcdZ m a b), true) := by
  obtain ⟨hm, oa, la⟩ := overB_ovr ha
  obtain ⟨_, ob, lb⟩ := overB_ovr hb
  have hmp := primeB_bd hm
  have hg := gcdZ_ovr hm (Nat.lt_succ_self _) oa ob
  have hl := gcdZ_len hm (N := 17) (by omega) (Nat.lt_succ_self _) oa ob la lb
  have ht := monicS_trd hm hg.ov hg.trd
  rw [ht.trimS]
  exact giveF_valid (ovr_valid ⟨monicS_ov hm hg.ov, ht, by rw [monicS_length]; omega⟩ (by omega) (by rw [monicS_length]; exact hl))

theorem commonR_len (m : Int) (a b : List Int) : (commonR m a b).1.length ≤ 1048576 := by
  unfold commonR
  split
  · rename_i h
    simp only [Bool.and_eq_true] at h
    obtain ⟨hm, oa, la⟩ := overB_ovr h.1
    obtain ⟨_, ob, lb⟩ := overB_ovr h.2
    have hl := gcdZ_len hm (N := 17) (by omega) (Nat.lt_succ_self _) oa ob la lb
    simp only [monicS_length]
    omega
  · simp

set_option maxRecDepth 100000 in
set_option maxHeartbeats 1600000 in
theorem CommonOver_impl (va vb : Value) (a b : List Int) (m : Int) (w : World) (ha : RdI w va a) (hb : RdI w vb b) (hla : a.length ≤ 1099511627776) (hlb : b.length ≤ 1099511627776) : Calls Try.prog 34 #[.agg #[va], .agg #[vb], .int .i64 m] w (RWB (commonR m a b) w) := by
  have Ha := Lib.hid ha
  have Hb := Lib.hid hb
  obtain ⟨aoa, ca, rfl⟩ := ha.shape
  obtain ⟨aob, cb, rfl⟩ := hb.shape
  clear ha hb
  have Hl2 := Lib.hid (show ∀ i, ([a, b].getD i []).length ≤ 1099511627776 from fun i => by
    match i with
    | 0 => simpa using hla
    | 1 => simpa using hlb
    | i + 2 => simp)
  cases hq : (overB m a && overB m b)
  · have Ho := Lib.hid (show commonR m a b = ([], false) by rw [commonR, hq]; rfl)
    have Hq := Lib.hid (show areOverB m [a, b] = false by rw [areOverB_two]; exact hq)
    clear hq
    go_enter Try.func34, Try.ntmps34
    go_wp2_with fail
    with_reducible refine (areOver_impl _ [a, b] m _ ?lit (by simp) Hl2.out).mono ?_
    case lit => exact RdWs.lit2 (by simp) (Ha.out.below (by (repeat' (first | (with_reducible exact Below.refl _ _) | (with_reducible assumption) | (with_reducible refine Below.alloc ?_ ?_ _) | (with_reducible refine Below.setCell ?_ ?_ _) | (with_reducible refine Below.drew ?_) | (with_reducible refine Below.via (by assumption) ?_ ?_) | go_size)))) (Hb.out.below (by (repeat' (first | (with_reducible exact Below.refl _ _) | (with_reducible assumption) | (with_reducible refine Below.alloc ?_ ?_ _) | (with_reducible refine Below.setCell ?_ ?_ _) | (with_reducible refine Below.drew ?_) | (with_reducible refine Below.via (by assumption) ?_ ?_) | go_size))))
    rintro e w' ⟨rfl, hb1⟩
    rw [Hq.out]
    obtain ⟨ch, fh⟩ := bcell hb1
    have hz := hb1.size
    simp only [World.size_alloc] at hz
    have lw0 : w.heap.size < w'.heap.size := by omega
    have lw1 : w.heap.size + 1 < w'.heap.size := by omega
    have lw2 : w.heap.size + 1 + 1 < w'.heap.size := by omega
    go_wp2_with fail
    (try simp only [Exit.inBlock, Exit.then]); refine bodyPost_ret (by simp [results, Try.results34, go_sem, *]; try rfl) rfl ?_
    rw [Ho.out]
    exact ⟨_, rfl, OwI.nil _ _, by (repeat' (first | (with_reducible exact Below.refl _ _) | (with_reducible assumption) | (with_reducible refine Below.alloc ?_ ?_ _) | (with_reducible refine Below.setCell ?_ ?_ _) | (with_reducible refine Below.drew ?_) | (with_reducible refine Below.via (by assumption) ?_ ?_) | go_size))⟩
  · have Ho := Lib.hid (show commonR m a b = (monicS m (gcdZ m a b), true) by rw [commonR, hq]; rfl)
    have Hq := Lib.hid (show areOverB m [a, b] = true by rw [areOverB_two]; exact hq)
    simp only [Bool.and_eq_true] at hq
    obtain ⟨hm, oa, la⟩ := overB_ovr hq.1
    obtain ⟨_, ob, lb⟩ := overB_ovr hq.2
    have Hm := Lib.hid hm
    have hg := gcdZ_ovr hm (Nat.lt_succ_self _) oa ob
    have He := Lib.hid (monic_eq hm hg.ov hg.trd)
    clear hq hm hg
    go_enter Try.func34, Try.ntmps34
    go_wp2_with fail
    with_reducible refine (areOver_impl _ [a, b] m _ ?lit (by simp) Hl2.out).mono ?_
    case lit => exact RdWs.lit2 (by simp) (Ha.out.below (by (repeat' (first | (with_reducible exact Below.refl _ _) | (with_reducible assumption) | (with_reducible refine Below.alloc ?_ ?_ _) | (with_reducible refine Below.setCell ?_ ?_ _) | (with_reducible refine Below.drew ?_) | (with_reducible refine Below.via (by assumption) ?_ ?_) | go_size)))) (Hb.out.below (by (repeat' (first | (with_reducible exact Below.refl _ _) | (with_reducible assumption) | (with_reducible refine Below.alloc ?_ ?_ _) | (with_reducible refine Below.setCell ?_ ?_ _) | (with_reducible refine Below.drew ?_) | (with_reducible refine Below.via (by assumption) ?_ ?_) | go_size))))
    rintro e w' ⟨rfl, hb1⟩
    rw [Hq.out]
    obtain ⟨ch, fh⟩ := bcell hb1
    have hz := hb1.size
    simp only [World.size_alloc] at hz
    have lw0 : w.heap.size < w'.heap.size := by omega
    have lw1 : w.heap.size + 1 < w'.heap.size := by omega
    have lw2 : w.heap.size + 1 + 1 < w'.heap.size := by omega
    have Hb1 := Lib.hid (show Below w.heap.size w w' by (repeat' (first | (with_reducible exact Below.refl _ _) | (with_reducible assumption) | (with_reducible refine Below.alloc ?_ ?_ _) | (with_reducible refine Below.setCell ?_ ?_ _) | (with_reducible refine Below.drew ?_) | (with_reducible refine Below.via (by assumption) ?_ ?_) | go_size)))
    go_wp2_with fail
    (go_at_call 81; ((with_reducible refine (common_impl _ _ a b m _ (Ha.out.below Hb1.out) (Hb.out.below Hb1.out) Hm.out oa ob).mono ?_); rintro e w2 ⟨v1, rfl, ho1, hb2⟩))
    obtain ⟨ch2, fh2⟩ := bcell hb2
    have hz2 := hb2.size
    have lr2 : w.heap.size + 1 + 1 < w2.heap.size := by omega
    obtain ⟨ao1, c1, rfl⟩ := ho1.rd.shape
    have Ho1 := Lib.hid ho1
    have Hb2 := Lib.hid hb2
    clear ho1 hb2 hb1
    go_wp2_with fail
    (try simp only [Exit.inBlock, Exit.then]); refine bodyPost_ret (by simp [results, Try.results34, go_sem, *]; try rfl) rfl ?_
    rw [Ho.out, ← He.out]
    have hb1 := Hb1.out
    have hb2 := Hb2.out
    exact ⟨_, rfl, OwI.mono (B := w'.heap.size) (OwI.setCell Ho1.out (by show w.heap.size + 1 + 1 < _; omega) _) (by omega), by (repeat' (first | (with_reducible exact Below.refl _ _) | (with_reducible assumption) | (with_reducible refine Below.alloc ?_ ?_ _) | (with_reducible refine Below.setCell ?_ ?_ _) | (with_reducible refine Below.drew ?_) | (with_reducible refine Below.via (by assumption) ?_ ?_) | go_size))⟩

set_option maxRecDepth 100000 in
set_option maxHeartbeats 1600000 in
theorem CommonOver_spec (va vb : Value) (a b : List Int) (m : Int) (w : World) (ha : RdI w va a) (hb : RdI w vb b) (hla : a.length ≤ 1099511627776) (hlb : b.length ≤ 1099511627776) : Calls Try.prog 32 #[.agg #[va], .agg #[vb], .int .i64 m] w (RWB (commonR m a b) w) := by
  have Ha := Lib.hid ha
  have Hb := Lib.hid hb
  obtain ⟨aoa, ca, rfl⟩ := ha.shape
  obtain ⟨aob, cb, rfl⟩ := hb.shape
  clear ha hb
  cases hqa : overB m a
  · have Ho := Lib.hid (show commonR m a b = ([], false) by rw [commonR, hqa]; rfl)
    go_enter Try.func32, Try.ntmps32
    go_wp2_with fail
    (go_at_call 68; ((with_reducible refine (over_spec _ _ a m _ (by go_simp) (Ha.out.below (by (repeat' (first | (with_reducible exact Below.refl _ _) | (with_reducible assumption) | (with_reducible refine Below.alloc ?_ ?_ _) | (with_reducible refine Below.setCell ?_ ?_ _) | (with_reducible refine Below.drew ?_) | (with_reducible refine Below.via (by assumption) ?_ ?_) | go_size)))) hla).mono ?_); rintro e w' ⟨rfl, rfl⟩))
    go_wp2_with fail
    (try simp only [Exit.inBlock, Exit.then]); refine bodyPost_ret (by simp [results, Try.results32, go_sem, *]; try rfl) rfl ?_
    rw [Ho.out]
    exact ⟨_, rfl, OwI.nil _ _, by (repeat' (first | (with_reducible exact Below.refl _ _) | (with_reducible assumption) | (with_reducible refine Below.alloc ?_ ?_ _) | (with_reducible refine Below.setCell ?_ ?_ _) | (with_reducible refine Below.drew ?_) | (with_reducible refine Below.via (by assumption) ?_ ?_) | go_size))⟩
  · cases hqb : overB m b
    · have Ho := Lib.hid (show commonR m a b = ([], false) by rw [commonR, hqa, hqb]; rfl)
      go_enter Try.func32, Try.ntmps32
      go_wp2_with fail
      (go_at_call 68; ((with_reducible refine (over_spec _ _ a m _ (by go_simp) (Ha.out.below (by (repeat' (first | (with_reducible exact Below.refl _ _) | (with_reducible assumption) | (with_reducible refine Below.alloc ?_ ?_ _) | (with_reducible refine Below.setCell ?_ ?_ _) | (with_reducible refine Below.drew ?_) | (with_reducible refine Below.via (by assumption) ?_ ?_) | go_size)))) hla).mono ?_); rintro e w' ⟨rfl, rfl⟩))
      go_wp2_with fail
      (go_at_call 68; ((with_reducible refine (over_spec _ _ b m _ (by go_simp) (Hb.out.below (by (repeat' (first | (with_reducible exact Below.refl _ _) | (with_reducible assumption) | (with_reducible refine Below.alloc ?_ ?_ _) | (with_reducible refine Below.setCell ?_ ?_ _) | (with_reducible refine Below.drew ?_) | (with_reducible refine Below.via (by assumption) ?_ ?_) | go_size)))) hlb).mono ?_); rintro e w' ⟨rfl, rfl⟩))
      go_wp2_with fail
      (try simp only [Exit.inBlock, Exit.then]); refine bodyPost_ret (by simp [results, Try.results32, go_sem, *]; try rfl) rfl ?_
      rw [Ho.out]
      exact ⟨_, rfl, OwI.nil _ _, by (repeat' (first | (with_reducible exact Below.refl _ _) | (with_reducible assumption) | (with_reducible refine Below.alloc ?_ ?_ _) | (with_reducible refine Below.setCell ?_ ?_ _) | (with_reducible refine Below.drew ?_) | (with_reducible refine Below.via (by assumption) ?_ ?_) | go_size))⟩
    · have Ho := Lib.hid (show commonR m a b = (monicS m (gcdZ m a b), true) by rw [commonR, hqa, hqb]; rfl)
      have Hgv := Lib.hid (commonR_give hqa hqb)
      obtain ⟨hm, oa, la⟩ := overB_ovr hqa
      obtain ⟨_, ob, lb⟩ := overB_ovr hqb
      have Hm := Lib.hid hm
      have hgl := gcdZ_len hm (N := 17) (by omega) (Nat.lt_succ_self _) oa ob la lb
      clear hm
      go_enter Try.func32, Try.ntmps32
      go_wp2_with fail
      (go_at_call 68; ((with_reducible refine (over_spec _ _ a m _ (by go_simp) (Ha.out.below (by (repeat' (first | (with_reducible exact Below.refl _ _) | (with_reducible assumption) | (with_reducible refine Below.alloc ?_ ?_ _) | (with_reducible refine Below.setCell ?_ ?_ _) | (with_reducible refine Below.drew ?_) | (with_reducible refine Below.via (by assumption) ?_ ?_) | go_size)))) hla).mono ?_); rintro e w' ⟨rfl, rfl⟩))
      go_wp2_with fail
      (go_at_call 68; ((with_reducible refine (over_spec _ _ b m _ (by go_simp) (Hb.out.below (by (repeat' (first | (with_reducible exact Below.refl _ _) | (with_reducible assumption) | (with_reducible refine Below.alloc ?_ ?_ _) | (with_reducible refine Below.setCell ?_ ?_ _) | (with_reducible refine Below.drew ?_) | (with_reducible refine Below.via (by assumption) ?_ ?_) | go_size)))) hlb).mono ?_); rintro e w' ⟨rfl, rfl⟩))
      go_wp2_with fail
      clear hqa hqb
      (go_at_call 72; ((with_reducible refine (common_spec _ _ a b m _ (Ha.out.below (by (repeat' (first | (with_reducible exact Below.refl _ _) | (with_reducible assumption) | (with_reducible refine Below.alloc ?_ ?_ _) | (with_reducible refine Below.setCell ?_ ?_ _) | (with_reducible refine Below.drew ?_) | (with_reducible refine Below.via (by assumption) ?_ ?_) | go_size)))) (Hb.out.below (by (repeat' (first | (with_reducible exact Below.refl _ _) | (with_reducible assumption) | (with_reducible refine Below.alloc ?_ ?_ _) | (with_reducible refine Below.setCell ?_ ?_ _) | (with_reducible refine Below.drew ?_) | (with_reducible refine Below.via (by assumption) ?_ ?_) | go_size)))) Hm.out oa ob).mono ?_); rintro e w' ⟨v1, rfl, hr1, hb1⟩))
      obtain ⟨ch, fh⟩ := bcell hb1
      have hz := hb1.size
      simp only [World.size_alloc] at hz
      have lw0 : w.heap.size < w'.heap.size := by omega
      have lw1 : w.heap.size + 1 < w'.heap.size := by omega
      have lw2 : w.heap.size + 1 + 1 < w'.heap.size := by omega
      have Hb1 := Lib.hid (show Below w.heap.size w w' by (repeat' (first | (with_reducible exact Below.refl _ _) | (with_reducible assumption) | (with_reducible refine Below.alloc ?_ ?_ _) | (with_reducible refine Below.setCell ?_ ?_ _) | (with_reducible refine Below.drew ?_) | (with_reducible refine Below.via (by assumption) ?_ ?_) | go_size)))
      have Hr1 := Lib.hid hr1
      obtain ⟨ao1, c1, rfl⟩ := hr1.shape
      clear hr1 hb1
      go_wp2_with fail
      (go_at_call 66; ((with_reducible refine (give_spec _ _ _ Hr1.out (by rw [monicS_length]; omega)).mono ?_); rintro e w2 ⟨v2, rfl, ho2, hb2⟩))
      rw [Hgv.out] at ho2
      obtain ⟨ch2, fh2⟩ := bcell hb2
      have hz2 := hb2.size
      have lr2 : w.heap.size + 1 + 1 < w2.heap.size := by omega
      obtain ⟨ao2, c2, rfl⟩ := ho2.rd.shape
      have Ho2 := Lib.hid ho2
      have Hb2 := Lib.hid hb2
      clear ho2 hb2
      rw [Hgv.out]
      go_wp2_with fail
      (try simp only [Exit.inBlock, Exit.then]); refine bodyPost_ret (by simp [results, Try.results32, go_sem, *]; try rfl) rfl ?_
      rw [Ho.out]
      have hb1 := Hb1.out
      have hb2 := Hb2.out
      exact ⟨_, rfl, OwI.mono (B := w'.heap.size) (OwI.setCell Ho2.out (by show w.heap.size + 1 + 1 < _; omega) _) (by omega), by (repeat' (first | (with_reducible exact Below.refl _ _) | (with_reducible assumption) | (with_reducible refine Below.alloc ?_ ?_ _) | (with_reducible refine Below.setCell ?_ ?_ _) | (with_reducible refine Below.drew ?_) | (with_reducible refine Below.via (by assumption) ?_ ?_) | go_size))⟩

end Go.Proofs.Ytlnjkjogedbhfaa
