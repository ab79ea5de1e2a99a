/- Small functions of wholes, where they answer. Conditions: valid wholes. -/
import Derived.Test.YtlnjkjogedbhfaaI36
import Derived.Test.YtlnjkjogedbhfaaIEv
import Derived.Test.YtlnjkjogedbhfaaI16
namespace Go.Proofs.Ytlnjkjogedbhfaa
open Go Go.RowKit
set_option linter.unusedSimpArgs false
set_option linter.unusedVariables false

set_option maxRecDepth 100000 in
set_option maxHeartbeats 800000 in
theorem b10Ints_law (va vb : Value) (zs : List Int) (w : World) (ha : RdI w va zs) (hb : RdI w vb zs) (hn : zs ≠ []) (hl : zs.length ≤ 1099511627776) : Calls Try.prog 60 #[va, vb] w fun e w' => ∃ m, e = .returned (.bool true) ∧ w' = w.drewN m := by
  obtain ⟨b, off, cap, rfl, _, hc⟩ := ha.open hn
  obtain ⟨b', off', cap', rfl, _, hc'⟩ := hb.open hn
  have Hc := Lib.hid hc
  have Hc' := Lib.hid hc'
  clear hc hc' ha hb
  go_enter Try.func60, Try.ntmps60
  go_wp2
  go_loopw [13] (fun i wr => ∃ k m : Nat, k ≤ zs.length ∧ i = .int .i64 k ∧ wr = w.drewN m) (fun i _ => zs.length - (intOf i).toNat)
  case atStart => exact ⟨0, 0, Nat.zero_le _, rfl, rfl⟩
  case round =>
    obtain ⟨k, m, hk, rfl, rfl⟩ := hrel
    by_cases hlt : k < zs.length
    · have c1 := Hc.out k hlt
      have c2 := Hc'.out k hlt
      generalize zs.getD k 0 = z at *
      go_wp2
      go_quiet (fail)
      go_wp2
      go_roundw
      case rel => exact ⟨k + 1, _, by omega, by go_num, rfl⟩
      case measure => simp [intOf]; omega
    · obtain rfl : k = zs.length := by omega
      go_wp2
      go_ret
      exact ⟨m, rfl, rfl⟩

set_option maxRecDepth 100000 in
set_option maxHeartbeats 800000 in
theorem equal_impl (va vb : Value) (zs : List Int) (w : World) (ha : RdI w va zs) (hb : RdI w vb zs) (hn : zs ≠ []) (hl : zs.length ≤ 1099511627776) : Calls Try.prog 100 #[va, vb] w fun e w' => ∃ m, e = .returned (.bool true) ∧ w' = w.drewN m := by
  obtain ⟨b, off, cap, rfl, _, hc⟩ := ha.open hn
  obtain ⟨b', off', cap', rfl, _, hc'⟩ := hb.open hn
  have Hc := Lib.hid hc
  have Hc' := Lib.hid hc'
  clear hc hc' ha hb
  go_enter Try.func100, Try.ntmps100
  go_wp2
  go_loopw [13] (fun i wr => ∃ k m : Nat, k ≤ zs.length ∧ i = .int .i64 k ∧ wr = w.drewN m) (fun i _ => zs.length - (intOf i).toNat)
  case atStart => exact ⟨0, 0, Nat.zero_le _, rfl, rfl⟩
  case round =>
    obtain ⟨k, m, hk, rfl, rfl⟩ := hrel
    by_cases hlt : k < zs.length
    · have c1 := Hc.out k hlt
      have c2 := Hc'.out k hlt
      generalize zs.getD k 0 = z at *
      go_wp2
      go_quiet (fail)
      go_wp2
      go_roundw
      case rel => exact ⟨k + 1, _, by omega, by go_num, rfl⟩
      case measure => simp [intOf]; omega
    · obtain rfl : k = zs.length := by omega
      go_wp2
      go_ret
      exact ⟨m, rfl, rfl⟩

set_option maxRecDepth 100000 in
set_option maxHeartbeats 800000 in
theorem b10Whole_law (va vb : Value) (zs : List Int) (w : World) (ha : RdI w va zs) (hb : RdI w vb zs) (hn : zs ≠ []) (hl : zs.length ≤ 1099511627776) : Calls Try.prog 25 #[.agg #[va], .agg #[vb]] w (RB true w) := by
  have Ha := Lib.hid ha
  have Hb := Lib.hid hb
  have h1 := List.length_pos_iff.2 hn
  obtain ⟨ao, ca, rfl⟩ := ha.shape
  obtain ⟨bo, cb, rfl⟩ := hb.shape
  clear ha hb
  go_enter Try.func25, Try.ntmps25
  go_wp2_with fail
  (go_at_call 60; ((with_reducible refine (b10Ints_law _ _ zs _ (Ha.out.below (by (repeat' (first | (with_reducible exact Below.refl _ _) | (with_reducible assumption) | (with_reducible refine Below.alloc ?_ ?_ _) | (with_reducible refine Below.setCell ?_ ?_ _) | (with_reducible refine Below.drew ?_) | (with_reducible refine Below.via (by assumption) ?_ ?_) | go_size)))) (Hb.out.below (by (repeat' (first | (with_reducible exact Below.refl _ _) | (with_reducible assumption) | (with_reducible refine Below.alloc ?_ ?_ _) | (with_reducible refine Below.setCell ?_ ?_ _) | (with_reducible refine Below.drew ?_) | (with_reducible refine Below.via (by assumption) ?_ ?_) | go_size)))) hn hl).mono ?_); rintro e w' ⟨m, rfl, rfl⟩))
  go_wp2_with fail
  go_ret
  exact ⟨rfl, Below.trans (show Below w.heap.size w _ by (repeat' (first | (with_reducible exact Below.refl _ _) | (with_reducible assumption) | (with_reducible refine Below.alloc ?_ ?_ _) | (with_reducible refine Below.setCell ?_ ?_ _) | (with_reducible refine Below.drew ?_) | (with_reducible refine Below.via (by assumption) ?_ ?_) | go_size))) ((drewN_below _ m).mono (by simp; omega))⟩

set_option maxRecDepth 100000 in
set_option maxHeartbeats 800000 in
theorem same_impl (va vb : Value) (zs : List Int) (w : World) (ha : RdI w va zs) (hb : RdI w vb zs) (hn : zs ≠ []) (hl : zs.length ≤ 1099511627776) : Calls Try.prog 26 #[.agg #[va], .agg #[vb]] w (RB true w) := by
  have Ha := Lib.hid ha
  have Hb := Lib.hid hb
  obtain ⟨ao, ca, rfl⟩ := ha.shape
  obtain ⟨bo, cb, rfl⟩ := hb.shape
  clear ha hb
  go_enter Try.func26, Try.ntmps26
  go_wp2_with fail
  (go_at_call 100; ((with_reducible refine (equal_impl _ _ zs _ (Ha.out.below (by (repeat' (first | (with_reducible exact Below.refl _ _) | (with_reducible assumption) | (with_reducible refine Below.alloc ?_ ?_ _) | (with_reducible refine Below.setCell ?_ ?_ _) | (with_reducible refine Below.drew ?_) | (with_reducible refine Below.via (by assumption) ?_ ?_) | go_size)))) (Hb.out.below (by (repeat' (first | (with_reducible exact Below.refl _ _) | (with_reducible assumption) | (with_reducible refine Below.alloc ?_ ?_ _) | (with_reducible refine Below.setCell ?_ ?_ _) | (with_reducible refine Below.drew ?_) | (with_reducible refine Below.via (by assumption) ?_ ?_) | go_size)))) hn hl).mono ?_); rintro e w' ⟨m, rfl, rfl⟩))
  go_wp2_with fail
  go_ret
  exact ⟨rfl, Below.trans (show Below w.heap.size w _ by (repeat' (first | (with_reducible exact Below.refl _ _) | (with_reducible assumption) | (with_reducible refine Below.alloc ?_ ?_ _) | (with_reducible refine Below.setCell ?_ ?_ _) | (with_reducible refine Below.drew ?_) | (with_reducible refine Below.via (by assumption) ?_ ?_) | go_size))) ((drewN_below _ m).mono (by simp; omega))⟩

set_option maxRecDepth 100000 in
set_option maxHeartbeats 1600000 in
theorem MulWholes_impl (va vb : Value) (a b : List Int) (w : World) (ha : RdI w va a) (hb : RdI w vb b) (hva : Vld a) (hvb : Vld b) (hp : Vld (mulZ a b)) : Calls Try.prog 20 #[.agg #[va], .agg #[vb]] w (RWB (mulZ a b, true) w) := by
  have Ha := Lib.hid ha
  have Hb := Lib.hid hb
  have Hva := Lib.hid hva
  have Hvb := Lib.hid hvb
  have Hqa := Lib.hid (validB_iff.2 hva)
  have Hqb := Lib.hid (validB_iff.2 hvb)
  have Hg := Lib.hid (giveF_valid (validB_iff.2 hp))
  have Ht := Lib.hid hp.trd.trimZ
  have hla := hva.len
  have hlb := hvb.len
  have hlp := hp.len
  have h1 := List.length_pos_iff.2 hva.ne
  have h2 := List.length_pos_iff.2 hvb.ne
  obtain ⟨aoa, ca, rfl⟩ := ha.shape
  obtain ⟨aob, cb, rfl⟩ := hb.shape
  clear ha hb hva hvb hp
  go_enter Try.func20, Try.ntmps20
  go_wp2_with fail
  (go_at_call 24; ((with_reducible refine (valid_impl _ a _ (Ha.out.below (by (repeat' (first | (with_reducible exact Below.refl _ _) | (with_reducible assumption) | (with_reducible refine Below.alloc ?_ ?_ _) | (with_reducible refine Below.setCell ?_ ?_ _) | (with_reducible refine Below.drew ?_) | (with_reducible refine Below.via (by assumption) ?_ ?_) | go_size)))) (by omega)).mono ?_); rintro e w1 ⟨rfl, hb1⟩))
  rw [Hqa.out]
  obtain ⟨c1, f1⟩ := bcell hb1
  have z1 := hb1.size
  simp only [World.size_alloc] at z1
  have l0 : w.heap.size < w1.heap.size := by omega
  have l1 : w.heap.size + 1 < w1.heap.size := by omega
  have l2 : w.heap.size + 1 + 1 < w1.heap.size := by omega
  go_wp2_with fail
  (go_at_call 24; ((with_reducible refine (valid_impl _ b _ (Hb.out.below (by (repeat' (first | (with_reducible exact Below.refl _ _) | (with_reducible assumption) | (with_reducible refine Below.alloc ?_ ?_ _) | (with_reducible refine Below.setCell ?_ ?_ _) | (with_reducible refine Below.drew ?_) | (with_reducible refine Below.via (by assumption) ?_ ?_) | go_size)))) (by omega)).mono ?_); rintro e w2 ⟨rfl, hb2⟩))
  rw [Hqb.out]
  obtain ⟨c2, f2⟩ := bcell hb2
  have z2 := hb2.size
  have m0 : w.heap.size < w2.heap.size := by omega
  have m1 : w.heap.size + 1 < w2.heap.size := by omega
  have m2 : w.heap.size + 1 + 1 < w2.heap.size := by omega
  have Bw2 := Lib.hid (show Below w.heap.size w w2 by (repeat' (first | (with_reducible exact Below.refl _ _) | (with_reducible assumption) | (with_reducible refine Below.alloc ?_ ?_ _) | (with_reducible refine Below.setCell ?_ ?_ _) | (with_reducible refine Below.drew ?_) | (with_reducible refine Below.via (by assumption) ?_ ?_) | go_size)))
  go_wp2_with fail
  (go_at_call 84; ((with_reducible refine (product_impl _ _ a b _ (Ha.out.below (by (repeat' (first | (with_reducible exact Below.refl _ _) | (with_reducible assumption) | (with_reducible refine Below.alloc ?_ ?_ _) | (with_reducible refine Below.setCell ?_ ?_ _) | (with_reducible refine Below.drew ?_) | (with_reducible refine Below.via (by assumption) ?_ ?_) | go_size)))) (Hb.out.below (by (repeat' (first | (with_reducible exact Below.refl _ _) | (with_reducible assumption) | (with_reducible refine Below.alloc ?_ ?_ _) | (with_reducible refine Below.setCell ?_ ?_ _) | (with_reducible refine Below.drew ?_) | (with_reducible refine Below.via (by assumption) ?_ ?_) | go_size)))) h1 h2 (by omega) (by omega) Hva.out.bd Hvb.out.bd).mono ?_); rintro e w3 ⟨v3, rfl, hr3, hb3⟩))
  obtain ⟨c3, f3⟩ := bcell hb3
  have z3 := hb3.size
  have n2 : w.heap.size + 1 + 1 < w3.heap.size := by omega
  have Hr3 := Lib.hid hr3.own
  clear hr3
  generalize mulZ a b = P at *
  go_wp2_with fail
  (go_at_call 86; ((with_reducible refine (whole_impl _ P _ w2.heap.size Hr3.out (by omega)).mono ?_); rintro e w4 ⟨v4, rfl, ho4, hb4⟩))
  rw [Ht.out] at ho4
  obtain ⟨c4, f4⟩ := bcell hb4
  have z4 := hb4.size
  have n4 : w.heap.size + 1 + 1 < w4.heap.size := by omega
  have Ho4 := Lib.hid ho4
  clear ho4
  go_wp2_with fail
  (go_at_call 92; ((with_reducible refine (checked_impl _ P _ w2.heap.size Ho4.out (by omega)).mono ?_); rintro e w5 ⟨v5, rfl, ho5, hb5⟩))
  rw [Hg.out] at ho5
  rw [Hg.out]
  obtain ⟨c5, f5⟩ := bcell hb5
  have z5 := hb5.size
  have n5 : w.heap.size + 1 + 1 < w5.heap.size := by omega
  have Ho5 := Lib.hid ho5
  obtain ⟨p5, q5, rfl⟩ := ho5.rd.shape
  clear ho5
  have Bw5 := Lib.hid (Bw2.out.trans ((hb3.mono (by omega)).trans ((hb4.mono (by omega)).trans (hb5.mono (by omega)))))
  clear hb1 hb2 hb3 hb4 hb5
  go_wp2_with fail
  (try simp only [Exit.inBlock, Exit.then]); refine bodyPost_ret (by simp [results, Try.results20, go_sem, *]; try rfl) rfl ?_
  exact ⟨_, rfl, OwI.mono (B := w2.heap.size) (OwI.setCell Ho5.out (by show w.heap.size + 1 + 1 < _; omega) _) (by omega), by have h := Bw5.out; (repeat' (first | (with_reducible exact Below.refl _ _) | (with_reducible assumption) | (with_reducible refine Below.alloc ?_ ?_ _) | (with_reducible refine Below.setCell ?_ ?_ _) | (with_reducible refine Below.drew ?_) | (with_reducible refine Below.via (by assumption) ?_ ?_) | go_size))⟩

def RZB (z : Int) (w : World) (e : Ending) (w' : World) : Prop := e = .returned (.tuple #[.int .i64 z, .bool true]) ∧ Below w.heap.size w w'
set_option maxRecDepth 100000 in
set_option maxHeartbeats 800000 in
theorem ContentOf_impl (va : Value) (a : List Int) (w : World) (ha : RdI w va a) (hva : Vld a) : Calls Try.prog 27 #[.agg #[va]] w (RZB (contZ a) w) := by
  have Ha := Lib.hid ha
  have Hva := Lib.hid hva
  have Hqa := Lib.hid (validB_iff.2 hva)
  have hla := hva.len
  obtain ⟨aoa, ca, rfl⟩ := ha.shape
  clear ha hva
  go_enter Try.func27, Try.ntmps27
  go_wp2_with fail
  (go_at_call 24; ((with_reducible refine (valid_impl _ a _ (Ha.out.below (by (repeat' (first | (with_reducible exact Below.refl _ _) | (with_reducible assumption) | (with_reducible refine Below.alloc ?_ ?_ _) | (with_reducible refine Below.setCell ?_ ?_ _) | (with_reducible refine Below.drew ?_) | (with_reducible refine Below.via (by assumption) ?_ ?_) | go_size)))) (by omega)).mono ?_); rintro e w1 ⟨rfl, hb1⟩))
  rw [Hqa.out]
  obtain ⟨c1, f1⟩ := bcell hb1
  have z1 := hb1.size
  simp only [World.size_alloc] at z1
  have l0 : w.heap.size < w1.heap.size := by omega
  go_wp2_with fail
  (go_at_call 101; ((with_reducible refine (content_impl _ a _ (Ha.out.below (by (repeat' (first | (with_reducible exact Below.refl _ _) | (with_reducible assumption) | (with_reducible refine Below.alloc ?_ ?_ _) | (with_reducible refine Below.setCell ?_ ?_ _) | (with_reducible refine Below.drew ?_) | (with_reducible refine Below.via (by assumption) ?_ ?_) | go_size)))) (by omega) Hva.out.bd).mono ?_); rintro e w2 ⟨rfl, hb2⟩))
  go_wp2_with fail
  go_ret2
  exact ⟨rfl, by (repeat' (first | (with_reducible exact Below.refl _ _) | (with_reducible assumption) | (with_reducible refine Below.alloc ?_ ?_ _) | (with_reducible refine Below.setCell ?_ ?_ _) | (with_reducible refine Below.drew ?_) | (with_reducible refine Below.via (by assumption) ?_ ?_) | go_size))⟩

set_option maxRecDepth 100000 in
set_option maxHeartbeats 800000 in
theorem PrimitiveOf_impl (va : Value) (a : List Int) (w : World) (ha : RdI w va a) (hva : Vld a) : Calls Try.prog 28 #[.agg #[va]] w (RWB (primZ a, true) w) := by
  have Ha := Lib.hid ha
  have Hva := Lib.hid hva
  have Hqa := Lib.hid (validB_iff.2 hva)
  have hla := hva.len
  obtain ⟨aoa, ca, rfl⟩ := ha.shape
  clear ha hva
  go_enter Try.func28, Try.ntmps28
  go_wp2_with fail
  (go_at_call 24; ((with_reducible refine (valid_impl _ a _ (Ha.out.below (by (repeat' (first | (with_reducible exact Below.refl _ _) | (with_reducible assumption) | (with_reducible refine Below.alloc ?_ ?_ _) | (with_reducible refine Below.setCell ?_ ?_ _) | (with_reducible refine Below.drew ?_) | (with_reducible refine Below.via (by assumption) ?_ ?_) | go_size)))) (by omega)).mono ?_); rintro e w1 ⟨rfl, hb1⟩))
  rw [Hqa.out]
  obtain ⟨c1, f1⟩ := bcell hb1
  have z1 := hb1.size
  simp only [World.size_alloc] at z1
  have l0 : w.heap.size < w1.heap.size := by omega
  have l1 : w.heap.size + 1 < w1.heap.size := by omega
  go_wp2_with fail
  (go_at_call 102; ((with_reducible refine (prim_impl _ a _ (Ha.out.below (by (repeat' (first | (with_reducible exact Below.refl _ _) | (with_reducible assumption) | (with_reducible refine Below.alloc ?_ ?_ _) | (with_reducible refine Below.setCell ?_ ?_ _) | (with_reducible refine Below.drew ?_) | (with_reducible refine Below.via (by assumption) ?_ ?_) | go_size)))) Hva.out.ne (by omega) Hva.out.bd).mono ?_); rintro e w2 ⟨v2, rfl, ho2, hb2⟩))
  obtain ⟨c2, f2⟩ := bcell hb2
  have z2 := hb2.size
  have l2 : w.heap.size + 1 < w2.heap.size := by omega
  have Ho2 := Lib.hid ho2
  obtain ⟨p2, n2, rfl⟩ := ho2.rd.shape
  clear ho2
  go_wp2_with fail
  (try simp only [Exit.inBlock, Exit.then]); refine bodyPost_ret (by simp [results, Try.results28, go_sem, *]; try rfl) rfl ?_
  exact ⟨_, rfl, OwI.mono (B := w1.heap.size) (OwI.setCell Ho2.out (by show w.heap.size + 1 < _; omega) _) (by omega), by (repeat' (first | (with_reducible exact Below.refl _ _) | (with_reducible assumption) | (with_reducible refine Below.alloc ?_ ?_ _) | (with_reducible refine Below.setCell ?_ ?_ _) | (with_reducible refine Below.drew ?_) | (with_reducible refine Below.via (by assumption) ?_ ?_) | go_size))⟩

set_option maxRecDepth 100000 in
set_option maxHeartbeats 800000 in
theorem WholeFrom_impl (va : Value) (a r : List Int) (w : World) (ha : RdI w va a) (hn : a ≠ []) (hl : a.length ≤ 1048576) (hr : trimZ a = r) (hvr : Vld r) : Calls Try.prog 30 #[va] w (RWB (r, true) w) := by
  have Ha := Lib.hid ha
  have h1 := List.length_pos_iff.2 hn
  have Hr := Lib.hid hr
  have Hg := Lib.hid (giveF_valid (validB_iff.2 hvr))
  have hlr := hvr.len
  obtain ⟨aoa, ca, rfl⟩ := ha.shape
  have hl0 : ¬ ((a.length : Int) = 0) := by omega
  clear ha hr hvr
  go_enter Try.func30, Try.ntmps30
  go_wp2_with fail
  (go_at_call 94; ((with_reducible refine (clone_impl _ a _ (Ha.out.below (by (repeat' (first | (with_reducible exact Below.refl _ _) | (with_reducible assumption) | (with_reducible refine Below.alloc ?_ ?_ _) | (with_reducible refine Below.setCell ?_ ?_ _) | (with_reducible refine Below.drew ?_) | (with_reducible refine Below.via (by assumption) ?_ ?_) | go_size)))) hn (by omega)).mono ?_); rintro e w1 ⟨g1, cap1, rfl, hg1, hr1, hb1⟩))
  obtain ⟨c1, f1⟩ := bcell hb1
  have z1 := hb1.size
  simp only [World.size_alloc] at z1
  have l1 : w.heap.size < w1.heap.size := by omega
  have Hr1 := Lib.hid hr1.own
  clear hr1
  simp only [World.size_alloc] at Hr1
  go_wp2_with fail
  (go_at_call 86; ((with_reducible refine (whole_impl _ a _ (w.heap.size + 1) Hr1.out (by omega)).mono ?_); rintro e w2 ⟨v2, rfl, ho2, hb2⟩))
  rw [Hr.out] at ho2
  obtain ⟨c2, f2⟩ := bcell hb2
  have z2 := hb2.size
  have l2 : w.heap.size < w2.heap.size := by omega
  have Ho2 := Lib.hid ho2
  clear ho2
  go_wp2_with fail
  (go_at_call 92; ((with_reducible refine (checked_impl _ r _ (w.heap.size + 1) Ho2.out (by omega)).mono ?_); rintro e w3 ⟨v3, rfl, ho3, hb3⟩))
  rw [Hg.out] at ho3
  rw [Hg.out]
  obtain ⟨c3, f3⟩ := bcell hb3
  have z3 := hb3.size
  have l3 : w.heap.size < w3.heap.size := by omega
  have Ho3 := Lib.hid ho3
  obtain ⟨p3, n3, rfl⟩ := ho3.rd.shape
  clear ho3
  have Bw3 := Lib.hid (show Below w.heap.size w w3 by (repeat' (first | (with_reducible exact Below.refl _ _) | (with_reducible assumption) | (with_reducible refine Below.alloc ?_ ?_ _) | (with_reducible refine Below.setCell ?_ ?_ _) | (with_reducible refine Below.drew ?_) | (with_reducible refine Below.via (by assumption) ?_ ?_) | go_size)))
  clear hb1 hb2 hb3
  go_wp2_with fail
  (try simp only [Exit.inBlock, Exit.then]); refine bodyPost_ret (by simp [results, Try.results30, go_sem, *]; try rfl) rfl ?_
  exact ⟨_, rfl, OwI.mono (B := w.heap.size + 1) (OwI.setCell Ho3.out (by show w.heap.size < _; omega) _) (by omega), by have h := Bw3.out; (repeat' (first | (with_reducible exact Below.refl _ _) | (with_reducible assumption) | (with_reducible refine Below.alloc ?_ ?_ _) | (with_reducible refine Below.setCell ?_ ?_ _) | (with_reducible refine Below.drew ?_) | (with_reducible refine Below.via (by assumption) ?_ ?_) | go_size))⟩

end Go.Proofs.Ytlnjkjogedbhfaa
