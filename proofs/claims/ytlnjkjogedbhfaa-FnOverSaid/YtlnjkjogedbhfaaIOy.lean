/- Small functions of wholes, where they answer. Conditions: valid wholes. -/
import Derived.Test.YtlnjkjogedbhfaaI36
import Derived.Test.YtlnjkjogedbhfaaIEv
import Derived.Test.YtlnjkjogedbhfaaI16
import Derived.Test.YtlnjkjogedbhfaaI23
import Derived.Test.YtlnjkjogedbhfaaIBez
import Derived.Test.YtlnjkjogedbhfaaI13
import Derived.Test.YtlnjkjogedbhfaaI46
import Derived.Test.YtlnjkjogedbhfaaIL1
import Derived.Deep.RegionWith
import Derived.Deep.DeepCutAuto
import Derived.Deep.RegionHeld3
import Derived.Test.YtlnjkjogedbhfaaI11
import Derived.Test.YtlnjkjogedbhfaaI19
import Derived.Test.YtlnjkjogedbhfaaI18
import Derived.Test.YtlnjkjogedbhfaaI22
import Derived.Test.YtlnjkjogedbhfaaIOvl
import Derived.Test.YtlnjkjogedbhfaaIFac3
import Derived.Deep.QuietTactic
import Derived.Test.YtlnjkjogedbhfaaIHx
import Derived.Deep.CutBlock
import Derived.BigQuiet
namespace Go.Proofs.Ytlnjkjogedbhfaa
open Go Go.RowKit
set_option linter.unusedSimpArgs false
set_option linter.unusedVariables false

set_option maxRecDepth 100000 in
set_option maxHeartbeats 800000 in
theorem b10Ints_law (va vb : Value) (zs : List Int) (w : World) (ha : RdI w va zs) (hb : RdI w vb zs) (hn : zs ≠ []) (hl : zs.length ≤ 1099511627776) : Calls Try.prog 60 #[va, vb] w fun e w' => ∃ m, e = .returned (.bool true) ∧ w' = w.drewN m := by
  obtain ⟨b, off, cap, rfl, _, hc⟩ := ha.open hn
  obtain ⟨b', off', cap', rfl, _, hc'⟩ := hb.open hn
  have Hc := Lib.hid hc
  have Hc' := Lib.hid hc'
  clear hc hc' ha hb
  go_enter Try.func60, Try.ntmps60
  go_wp2
  go_loopw [13] (fun i wr => ∃ k m : Nat, k ≤ zs.length ∧ i = .int .i64 k ∧ wr = w.drewN m) (fun i _ => zs.length - (intOf i).toNat)
  case atStart => exact ⟨0, 0, Nat.zero_le _, rfl, rfl⟩
  case round =>
    obtain ⟨k, m, hk, rfl, rfl⟩ := hrel
    by_cases hlt : k < zs.length
    · have c1 := Hc.out k hlt
      have c2 := Hc'.out k hlt
      generalize zs.getD k 0 = z at *
      go_wp2
      go_quiet (fail)
      go_wp2
      go_roundw
      case rel => exact ⟨k + 1, _, by omega, by go_num, rfl⟩
      case measure => simp [intOf]; omega
    · obtain rfl : k = zs.length := by omega
      go_wp2
      go_ret
      exact ⟨m, rfl, rfl⟩

set_option maxRecDepth 100000 in
set_option maxHeartbeats 800000 in
theorem equal_impl (va vb : Value) (zs : List Int) (w : World) (ha : RdI w va zs) (hb : RdI w vb zs) (hn : zs ≠ []) (hl : zs.length ≤ 1099511627776) : Calls Try.prog 100 #[va, vb] w fun e w' => ∃ m, e = .returned (.bool true) ∧ w' = w.drewN m := by
  obtain ⟨b, off, cap, rfl, _, hc⟩ := ha.open hn
  obtain ⟨b', off', cap', rfl, _, hc'⟩ := hb.open hn
  have Hc := Lib.hid hc
  have Hc' := Lib.hid hc'
  clear hc hc' ha hb
  go_enter Try.func100, Try.ntmps100
  go_wp2
  go_loopw [13] (fun i wr => ∃ k m : Nat, k ≤ zs.length ∧ i = .int .i64 k ∧ wr = w.drewN m) (fun i _ => zs.length - (intOf i).toNat)
  case atStart => exact ⟨0, 0, Nat.zero_le _, rfl, rfl⟩
  case round =>
    obtain ⟨k, m, hk, rfl, rfl⟩ := hrel
    by_cases hlt : k < zs.length
    · have c1 := Hc.out k hlt
      have c2 := Hc'.out k hlt
      generalize zs.getD k 0 = z at *
      go_wp2
      go_quiet (fail)
      go_wp2
      go_roundw
      case rel => exact ⟨k + 1, _, by omega, by go_num, rfl⟩
      case measure => simp [intOf]; omega
    · obtain rfl : k = zs.length := by omega
      go_wp2
      go_ret
      exact ⟨m, rfl, rfl⟩

set_option maxRecDepth 100000 in
set_option maxHeartbeats 800000 in
theorem b10Whole_law (va vb : Value) (zs : List Int) (w : World) (ha : RdI w va zs) (hb : RdI w vb zs) (hn : zs ≠ []) (hl : zs.length ≤ 1099511627776) : Calls Try.prog 25 #[.agg #[va], .agg #[vb]] w (RB true w) := by
  have Ha := Lib.hid ha
  have Hb := Lib.hid hb
  have h1 := List.length_pos_iff.2 hn
  obtain ⟨ao, ca, rfl⟩ := ha.shape
  obtain ⟨bo, cb, rfl⟩ := hb.shape
  clear ha hb
  go_enter Try.func25, Try.ntmps25
  go_wp2_with fail
  (go_at_call 60; ((with_reducible refine (b10Ints_law _ _ zs _ (Ha.out.below (by (repeat' (first | (with_reducible exact Below.refl _ _) | (with_reducible assumption) | (with_reducible refine Below.alloc ?_ ?_ _) | (with_reducible refine Below.setCell ?_ ?_ _) | (with_reducible refine Below.drew ?_) | (with_reducible refine Below.via (by assumption) ?_ ?_) | go_size)))) (Hb.out.below (by (repeat' (first | (with_reducible exact Below.refl _ _) | (with_reducible assumption) | (with_reducible refine Below.alloc ?_ ?_ _) | (with_reducible refine Below.setCell ?_ ?_ _) | (with_reducible refine Below.drew ?_) | (with_reducible refine Below.via (by assumption) ?_ ?_) | go_size)))) hn hl).mono ?_); rintro e w' ⟨m, rfl, rfl⟩))
  go_wp2_with fail
  go_ret
  exact ⟨rfl, Below.trans (show Below w.heap.size w _ by (repeat' (first | (with_reducible exact Below.refl _ _) | (with_reducible assumption) | (with_reducible refine Below.alloc ?_ ?_ _) | (with_reducible refine Below.setCell ?_ ?_ _) | (with_reducible refine Below.drew ?_) | (with_reducible refine Below.via (by assumption) ?_ ?_) | go_size))) ((drewN_below _ m).mono (by simp; omega))⟩

set_option maxRecDepth 100000 in
set_option maxHeartbeats 800000 in
theorem same_impl (va vb : Value) (zs : List Int) (w : World) (ha : RdI w va zs) (hb : RdI w vb zs) (hn : zs ≠ []) (hl : zs.length ≤ 1099511627776) : Calls Try.prog 26 #[.agg #[va], .agg #[vb]] w (RB true w) := by
  have Ha := Lib.hid ha
  have Hb := Lib.hid hb
  obtain ⟨ao, ca, rfl⟩ := ha.shape
  obtain ⟨bo, cb, rfl⟩ := hb.shape
  clear ha hb
  go_enter Try.func26, Try.ntmps26
  go_wp2_with fail
  (go_at_call 100; ((with_reducible refine (equal_impl _ _ zs _ (Ha.out.below (by (repeat' (first | (with_reducible exact Below.refl _ _) | (with_reducible assumption) | (with_reducible refine Below.alloc ?_ ?_ _) | (with_reducible refine Below.setCell ?_ ?_ _) | (with_reducible refine Below.drew ?_) | (with_reducible refine Below.via (by assumption) ?_ ?_) | go_size)))) (Hb.out.below (by (repeat' (first | (with_reducible exact Below.refl _ _) | (with_reducible assumption) | (with_reducible refine Below.alloc ?_ ?_ _) | (with_reducible refine Below.setCell ?_ ?_ _) | (with_reducible refine Below.drew ?_) | (with_reducible refine Below.via (by assumption) ?_ ?_) | go_size)))) hn hl).mono ?_); rintro e w' ⟨m, rfl, rfl⟩))
  go_wp2_with fail
  go_ret
  exact ⟨rfl, Below.trans (show Below w.heap.size w _ by (repeat' (first | (with_reducible exact Below.refl _ _) | (with_reducible assumption) | (with_reducible refine Below.alloc ?_ ?_ _) | (with_reducible refine Below.setCell ?_ ?_ _) | (with_reducible refine Below.drew ?_) | (with_reducible refine Below.via (by assumption) ?_ ?_) | go_size))) ((drewN_below _ m).mono (by simp; omega))⟩

set_option maxRecDepth 100000 in
set_option maxHeartbeats 1600000 in
theorem MulWholes_impl (va vb : Value) (a b : List Int) (w : World) (ha : RdI w va a) (hb : RdI w vb b) (hva : Vld a) (hvb : Vld b) (hp : Vld (mulZ a b)) : Calls Try.prog 20 #[.agg #[va], .agg #[vb]] w (RWB (mulZ a b, true) w) := by
  have Ha := Lib.hid ha
  have Hb := Lib.hid hb
  have Hva := Lib.hid hva
  have Hvb := Lib.hid hvb
  have Hqa := Lib.hid (validB_iff.2 hva)
  have Hqb := Lib.hid (validB_iff.2 hvb)
  have Hg := Lib.hid (giveF_valid (validB_iff.2 hp))
  have Ht := Lib.hid hp.trd.trimZ
  have hla := hva.len
  have hlb := hvb.len
  have hlp := hp.len
  have h1 := List.length_pos_iff.2 hva.ne
  have h2 := List.length_pos_iff.2 hvb.ne
  obtain ⟨aoa, ca, rfl⟩ := ha.shape
  obtain ⟨aob, cb, rfl⟩ := hb.shape
  clear ha hb hva hvb hp
  go_enter Try.func20, Try.ntmps20
  go_wp2_with fail
  (go_at_call 24; ((with_reducible refine (valid_impl _ a _ (Ha.out.below (by (repeat' (first | (with_reducible exact Below.refl _ _) | (with_reducible assumption) | (with_reducible refine Below.alloc ?_ ?_ _) | (with_reducible refine Below.setCell ?_ ?_ _) | (with_reducible refine Below.drew ?_) | (with_reducible refine Below.via (by assumption) ?_ ?_) | go_size)))) (by omega)).mono ?_); rintro e w1 ⟨rfl, hb1⟩))
  rw [Hqa.out]
  obtain ⟨c1, f1⟩ := bcell hb1
  have z1 := hb1.size
  simp only [World.size_alloc] at z1
  have l0 : w.heap.size < w1.heap.size := by omega
  have l1 : w.heap.size + 1 < w1.heap.size := by omega
  have l2 : w.heap.size + 1 + 1 < w1.heap.size := by omega
  go_wp2_with fail
  (go_at_call 24; ((with_reducible refine (valid_impl _ b _ (Hb.out.below (by (repeat' (first | (with_reducible exact Below.refl _ _) | (with_reducible assumption) | (with_reducible refine Below.alloc ?_ ?_ _) | (with_reducible refine Below.setCell ?_ ?_ _) | (with_reducible refine Below.drew ?_) | (with_reducible refine Below.via (by assumption) ?_ ?_) | go_size)))) (by omega)).mono ?_); rintro e w2 ⟨rfl, hb2⟩))
  rw [Hqb.out]
  obtain ⟨c2, f2⟩ := bcell hb2
  have z2 := hb2.size
  have m0 : w.heap.size < w2.heap.size := by omega
  have m1 : w.heap.size + 1 < w2.heap.size := by omega
  have m2 : w.heap.size + 1 + 1 < w2.heap.size := by omega
  have Bw2 := Lib.hid (show Below w.heap.size w w2 by (repeat' (first | (with_reducible exact Below.refl _ _) | (with_reducible assumption) | (with_reducible refine Below.alloc ?_ ?_ _) | (with_reducible refine Below.setCell ?_ ?_ _) | (with_reducible refine Below.drew ?_) | (with_reducible refine Below.via (by assumption) ?_ ?_) | go_size)))
  go_wp2_with fail
  (go_at_call 84; ((with_reducible refine (product_impl _ _ a b _ (Ha.out.below (by (repeat' (first | (with_reducible exact Below.refl _ _) | (with_reducible assumption) | (with_reducible refine Below.alloc ?_ ?_ _) | (with_reducible refine Below.setCell ?_ ?_ _) | (with_reducible refine Below.drew ?_) | (with_reducible refine Below.via (by assumption) ?_ ?_) | go_size)))) (Hb.out.below (by (repeat' (first | (with_reducible exact Below.refl _ _) | (with_reducible assumption) | (with_reducible refine Below.alloc ?_ ?_ _) | (with_reducible refine Below.setCell ?_ ?_ _) | (with_reducible refine Below.drew ?_) | (with_reducible refine Below.via (by assumption) ?_ ?_) | go_size)))) h1 h2 (by omega) (by omega) Hva.out.bd Hvb.out.bd).mono ?_); rintro e w3 ⟨v3, rfl, hr3, hb3⟩))
  obtain ⟨c3, f3⟩ := bcell hb3
  have z3 := hb3.size
  have n2 : w.heap.size + 1 + 1 < w3.heap.size := by omega
  have Hr3 := Lib.hid hr3.own
  clear hr3
  generalize mulZ a b = P at *
  go_wp2_with fail
  (go_at_call 86; ((with_reducible refine (whole_impl _ P _ w2.heap.size Hr3.out (by omega)).mono ?_); rintro e w4 ⟨v4, rfl, ho4, hb4⟩))
  rw [Ht.out] at ho4
  obtain ⟨c4, f4⟩ := bcell hb4
  have z4 := hb4.size
  have n4 : w.heap.size + 1 + 1 < w4.heap.size := by omega
  have Ho4 := Lib.hid ho4
  clear ho4
  go_wp2_with fail
  (go_at_call 92; ((with_reducible refine (checked_impl _ P _ w2.heap.size Ho4.out (by omega)).mono ?_); rintro e w5 ⟨v5, rfl, ho5, hb5⟩))
  rw [Hg.out] at ho5
  rw [Hg.out]
  obtain ⟨c5, f5⟩ := bcell hb5
  have z5 := hb5.size
  have n5 : w.heap.size + 1 + 1 < w5.heap.size := by omega
  have Ho5 := Lib.hid ho5
  obtain ⟨p5, q5, rfl⟩ := ho5.rd.shape
  clear ho5
  have Bw5 := Lib.hid (Bw2.out.trans ((hb3.mono (by omega)).trans ((hb4.mono (by omega)).trans (hb5.mono (by omega)))))
  clear hb1 hb2 hb3 hb4 hb5
  go_wp2_with fail
  (try simp only [Exit.inBlock, Exit.then]); refine bodyPost_ret (by simp [results, Try.results20, go_sem, *]; try rfl) rfl ?_
  exact ⟨_, rfl, OwI.mono (B := w2.heap.size) (OwI.setCell Ho5.out (by show w.heap.size + 1 + 1 < _; omega) _) (by omega), by have h := Bw5.out; (repeat' (first | (with_reducible exact Below.refl _ _) | (with_reducible assumption) | (with_reducible refine Below.alloc ?_ ?_ _) | (with_reducible refine Below.setCell ?_ ?_ _) | (with_reducible refine Below.drew ?_) | (with_reducible refine Below.via (by assumption) ?_ ?_) | go_size))⟩

def RZB (z : Int) (w : World) (e : Ending) (w' : World) : Prop := e = .returned (.tuple #[.int .i64 z, .bool true]) ∧ Below w.heap.size w w'
set_option maxRecDepth 100000 in
set_option maxHeartbeats 800000 in
theorem ContentOf_impl (va : Value) (a : List Int) (w : World) (ha : RdI w va a) (hva : Vld a) : Calls Try.prog 27 #[.agg #[va]] w (RZB (contZ a) w) := by
  have Ha := Lib.hid ha
  have Hva := Lib.hid hva
  have Hqa := Lib.hid (validB_iff.2 hva)
  have hla := hva.len
  obtain ⟨aoa, ca, rfl⟩ := ha.shape
  clear ha hva
  go_enter Try.func27, Try.ntmps27
  go_wp2_with fail
  (go_at_call 24; ((with_reducible refine (valid_impl _ a _ (Ha.out.below (by (repeat' (first | (with_reducible exact Below.refl _ _) | (with_reducible assumption) | (with_reducible refine Below.alloc ?_ ?_ _) | (with_reducible refine Below.setCell ?_ ?_ _) | (with_reducible refine Below.drew ?_) | (with_reducible refine Below.via (by assumption) ?_ ?_) | go_size)))) (by omega)).mono ?_); rintro e w1 ⟨rfl, hb1⟩))
  rw [Hqa.out]
  obtain ⟨c1, f1⟩ := bcell hb1
  have z1 := hb1.size
  simp only [World.size_alloc] at z1
  have l0 : w.heap.size < w1.heap.size := by omega
  go_wp2_with fail
  (go_at_call 101; ((with_reducible refine (content_impl _ a _ (Ha.out.below (by (repeat' (first | (with_reducible exact Below.refl _ _) | (with_reducible assumption) | (with_reducible refine Below.alloc ?_ ?_ _) | (with_reducible refine Below.setCell ?_ ?_ _) | (with_reducible refine Below.drew ?_) | (with_reducible refine Below.via (by assumption) ?_ ?_) | go_size)))) (by omega) Hva.out.bd).mono ?_); rintro e w2 ⟨rfl, hb2⟩))
  go_wp2_with fail
  go_ret2
  exact ⟨rfl, by (repeat' (first | (with_reducible exact Below.refl _ _) | (with_reducible assumption) | (with_reducible refine Below.alloc ?_ ?_ _) | (with_reducible refine Below.setCell ?_ ?_ _) | (with_reducible refine Below.drew ?_) | (with_reducible refine Below.via (by assumption) ?_ ?_) | go_size))⟩

set_option maxRecDepth 100000 in
set_option maxHeartbeats 800000 in
theorem PrimitiveOf_impl (va : Value) (a : List Int) (w : World) (ha : RdI w va a) (hva : Vld a) : Calls Try.prog 28 #[.agg #[va]] w (RWB (primZ a, true) w) := by
  have Ha := Lib.hid ha
  have Hva := Lib.hid hva
  have Hqa := Lib.hid (validB_iff.2 hva)
  have hla := hva.len
  obtain ⟨aoa, ca, rfl⟩ := ha.shape
  clear ha hva
  go_enter Try.func28, Try.ntmps28
  go_wp2_with fail
  (go_at_call 24; ((with_reducible refine (valid_impl _ a _ (Ha.out.below (by (repeat' (first | (with_reducible exact Below.refl _ _) | (with_reducible assumption) | (with_reducible refine Below.alloc ?_ ?_ _) | (with_reducible refine Below.setCell ?_ ?_ _) | (with_reducible refine Below.drew ?_) | (with_reducible refine Below.via (by assumption) ?_ ?_) | go_size)))) (by omega)).mono ?_); rintro e w1 ⟨rfl, hb1⟩))
  rw [Hqa.out]
  obtain ⟨c1, f1⟩ := bcell hb1
  have z1 := hb1.size
  simp only [World.size_alloc] at z1
  have l0 : w.heap.size < w1.heap.size := by omega
  have l1 : w.heap.size + 1 < w1.heap.size := by omega
  go_wp2_with fail
  (go_at_call 102; ((with_reducible refine (prim_impl _ a _ (Ha.out.below (by (repeat' (first | (with_reducible exact Below.refl _ _) | (with_reducible assumption) | (with_reducible refine Below.alloc ?_ ?_ _) | (with_reducible refine Below.setCell ?_ ?_ _) | (with_reducible refine Below.drew ?_) | (with_reducible refine Below.via (by assumption) ?_ ?_) | go_size)))) Hva.out.ne (by omega) Hva.out.bd).mono ?_); rintro e w2 ⟨v2, rfl, ho2, hb2⟩))
  obtain ⟨c2, f2⟩ := bcell hb2
  have z2 := hb2.size
  have l2 : w.heap.size + 1 < w2.heap.size := by omega
  have Ho2 := Lib.hid ho2
  obtain ⟨p2, n2, rfl⟩ := ho2.rd.shape
  clear ho2
  go_wp2_with fail
  (try simp only [Exit.inBlock, Exit.then]); refine bodyPost_ret (by simp [results, Try.results28, go_sem, *]; try rfl) rfl ?_
  exact ⟨_, rfl, OwI.mono (B := w1.heap.size) (OwI.setCell Ho2.out (by show w.heap.size + 1 < _; omega) _) (by omega), by (repeat' (first | (with_reducible exact Below.refl _ _) | (with_reducible assumption) | (with_reducible refine Below.alloc ?_ ?_ _) | (with_reducible refine Below.setCell ?_ ?_ _) | (with_reducible refine Below.drew ?_) | (with_reducible refine Below.via (by assumption) ?_ ?_) | go_size))⟩

set_option maxRecDepth 100000 in
set_option maxHeartbeats 800000 in
theorem WholeFrom_impl (va : Value) (a r : List Int) (w : World) (ha : RdI w va a) (hn : a ≠ []) (hl : a.length ≤ 1048576) (hr : trimZ a = r) (hvr : Vld r) : Calls Try.prog 30 #[va] w (RWB (r, true) w) := by
  have Ha := Lib.hid ha
  have h1 := List.length_pos_iff.2 hn
  have Hr := Lib.hid hr
  have Hg := Lib.hid (giveF_valid (validB_iff.2 hvr))
  have hlr := hvr.len
  obtain ⟨aoa, ca, rfl⟩ := ha.shape
  have hl0 : ¬ ((a.length : Int) = 0) := by omega
  clear ha hr hvr
  go_enter Try.func30, Try.ntmps30
  go_wp2_with fail
  (go_at_call 94; ((with_reducible refine (clone_impl _ a _ (Ha.out.below (by (repeat' (first | (with_reducible exact Below.refl _ _) | (with_reducible assumption) | (with_reducible refine Below.alloc ?_ ?_ _) | (with_reducible refine Below.setCell ?_ ?_ _) | (with_reducible refine Below.drew ?_) | (with_reducible refine Below.via (by assumption) ?_ ?_) | go_size)))) hn (by omega)).mono ?_); rintro e w1 ⟨g1, cap1, rfl, hg1, hr1, hb1⟩))
  obtain ⟨c1, f1⟩ := bcell hb1
  have z1 := hb1.size
  simp only [World.size_alloc] at z1
  have l1 : w.heap.size < w1.heap.size := by omega
  have Hr1 := Lib.hid hr1.own
  clear hr1
  simp only [World.size_alloc] at Hr1
  go_wp2_with fail
  (go_at_call 86; ((with_reducible refine (whole_impl _ a _ (w.heap.size + 1) Hr1.out (by omega)).mono ?_); rintro e w2 ⟨v2, rfl, ho2, hb2⟩))
  rw [Hr.out] at ho2
  obtain ⟨c2, f2⟩ := bcell hb2
  have z2 := hb2.size
  have l2 : w.heap.size < w2.heap.size := by omega
  have Ho2 := Lib.hid ho2
  clear ho2
  go_wp2_with fail
  (go_at_call 92; ((with_reducible refine (checked_impl _ r _ (w.heap.size + 1) Ho2.out (by omega)).mono ?_); rintro e w3 ⟨v3, rfl, ho3, hb3⟩))
  rw [Hg.out] at ho3
  rw [Hg.out]
  obtain ⟨c3, f3⟩ := bcell hb3
  have z3 := hb3.size
  have l3 : w.heap.size < w3.heap.size := by omega
  have Ho3 := Lib.hid ho3
  obtain ⟨p3, n3, rfl⟩ := ho3.rd.shape
  clear ho3
  have Bw3 := Lib.hid (show Below w.heap.size w w3 by (repeat' (first | (with_reducible exact Below.refl _ _) | (with_reducible assumption) | (with_reducible refine Below.alloc ?_ ?_ _) | (with_reducible refine Below.setCell ?_ ?_ _) | (with_reducible refine Below.drew ?_) | (with_reducible refine Below.via (by assumption) ?_ ?_) | go_size)))
  clear hb1 hb2 hb3
  go_wp2_with fail
  (try simp only [Exit.inBlock, Exit.then]); refine bodyPost_ret (by simp [results, Try.results30, go_sem, *]; try rfl) rfl ?_
  exact ⟨_, rfl, OwI.mono (B := w.heap.size + 1) (OwI.setCell Ho3.out (by show w.heap.size < _; omega) _) (by omega), by have h := Bw3.out; (repeat' (first | (with_reducible exact Below.refl _ _) | (with_reducible assumption) | (with_reducible refine Below.alloc ?_ ?_ _) | (with_reducible refine Below.setCell ?_ ?_ _) | (with_reducible refine Below.drew ?_) | (with_reducible refine Below.via (by assumption) ?_ ?_) | go_size))⟩

end Go.Proofs.Ytlnjkjogedbhfaa

/- A row of the call's own that grows beside younger blocks. Conditions: none. -/
namespace Go.Proofs.Ytlnjkjogedbhfaa
open Go Go.RowKit
set_option linter.unusedSimpArgs false
set_option linter.unusedVariables false

/-- A row whose block was g0 in W; all other blocks of W are as they were. -/
def RowZ (W : World) (g0 : Nat) (wr : World) (v : Value) (zs : List Int) : Prop := RowI wr g0 v zs ∧ Only g0 (g0 + 1) W wr ∧ ∀ k, v.ownBlock = some k → k = g0 ∨ W.heap.size ≤ k
theorem RowZ.row {W wr : World} {g0 : Nat} {v : Value} {zs : List Int} (h : RowZ W g0 wr v zs) : RowI wr g0 v zs := h.1
theorem RowZ.only {W wr : World} {g0 : Nat} {v : Value} {zs : List Int} (h : RowZ W g0 wr v zs) : Only g0 (g0 + 1) W wr := h.2.1
theorem RowZ.below {W wr w' : World} {g0 : Nat} {v : Value} {zs : List Int} (h : RowZ W g0 wr v zs) (hb : Below wr.heap.size wr w') : RowZ W g0 w' v zs := ⟨h.1.below hb, ⟨hb.os.trans h.2.1.os, hb.tape.trans h.2.1.tape, hb.output.trans h.2.1.output, Nat.le_trans h.2.1.size hb.size, fun k hk hd => (hb.block k (Nat.lt_of_lt_of_le hk h.2.1.size)).trans (h.2.1.block k hk hd)⟩, h.2.2⟩
theorem RowZ.start {W : World} {g0 n c : Nat} {zs : List Int} (h : RowI W g0 (.slice (some ⟨g0, 0, none⟩) n c) zs) : RowZ W g0 W (.slice (some ⟨g0, 0, none⟩) n c) zs := ⟨h, Only.refl _ _ _, fun k hk => .inl (by simp only [Value.ownBlock, Option.some.injEq] at hk; exact hk.symm)⟩
theorem RowZ.block {W wr : World} {g0 k : Nat} {v : Value} {zs : List Int} (h : RowZ W g0 wr v zs) (hk : k < W.heap.size) (hn : k ≠ g0) : wr.heap[k]? = W.heap[k]? := h.2.1.block k hk (by omega)
theorem RowZ.cell {W wr : World} {g0 k : Nat} {v : Value} {zs : List Int} (h : RowZ W g0 wr v zs) (hk : k < W.heap.size) (hn : k ≠ g0) : wr.cell? ⟨k, 0, none⟩ = W.cell? ⟨k, 0, none⟩ := World.cell?_of_block (w := W) (h.block hk hn)
theorem RowZ.frozen {W wr : World} {g0 k : Nat} {v : Value} {zs : List Int} (h : RowZ W g0 wr v zs) (hk : k < W.heap.size) (hn : k ≠ g0) : wr.frozen? ⟨k, 0, none⟩ = W.frozen? ⟨k, 0, none⟩ := World.frozen?_of_block (w := W) (h.block hk hn)
theorem RowZ.size {W wr : World} {g0 : Nat} {v : Value} {zs : List Int} (h : RowZ W g0 wr v zs) : W.heap.size ≤ wr.heap.size := h.2.1.size
/-- What is read in W, in no block g0. -/
def RdZ (W : World) (g0 : Nat) (v : Value) (zs : List Int) : Prop := RdI W v zs ∧ ∀ p n c, v = .slice (some p) n c → p.block < W.heap.size ∧ p.block ≠ g0
theorem RdZ.rd {W wr : World} {g0 : Nat} {v u : Value} {xs zs : List Int} (h : RdZ W g0 v xs) (hr : RowZ W g0 wr u zs) : RdI wr v xs := by
  obtain ⟨⟨ao, cp, rfl, hcp, hx⟩, h2⟩ := h
  refine ⟨ao, cp, rfl, hcp, ?_⟩
  rcases hx with hx | ⟨b, off, rfl, hc⟩
  · exact .inl hx
  · have h3 := h2 _ _ _ rfl
    exact .inr ⟨b, off, rfl, fun i hi => by rw [World.cell?_of_block (w := W) (a := ⟨b, off + i, none⟩) (hr.block h3.1 h3.2)]; exact hc i hi⟩
theorem RdZ.ofOld {w W : World} {g0 : Nat} {v : Value} {zs : List Int} (h : RdI w v zs) (hn : zs ≠ []) (hb : Below w.heap.size w W) (hg : w.heap.size ≤ g0) : RdZ W g0 v zs := by
  obtain ⟨b, off, cap, rfl, hlt, hc⟩ := h.open hn
  refine ⟨h.below hb, fun p n c hv => ?_⟩
  have hs := hb.size
  simp only [Value.slice.injEq, Option.some.injEq] at hv
  rw [← hv.1]
  exact ⟨by simp only; omega, by simp only; omega⟩
theorem RdZ.ofOwn {w W : World} {B g0 : Nat} {v : Value} {zs : List Int} (h : OwI w B v zs) (hn : zs ≠ []) (hb : Below w.heap.size w W) (hg : g0 < B) : RdZ W g0 v zs := by
  obtain ⟨g, cap, rfl, hB, hlt, _⟩ := h.open hn
  refine ⟨h.rd.below hb, fun p n c hv => ?_⟩
  have hs := hb.size
  simp only [Value.slice.injEq, Option.some.injEq] at hv
  rw [← hv.1]
  exact ⟨by simp only; omega, by simp only; omega⟩
section
variable {ops : Array Oper} {o : Oper} {a : Act} {K : Act → World → Prop} {Q : Exit → Act → World → Prop} {E : Prop}
theorem step_pushZ {t : TypeId} {W w : World} {g0 : Nat} {v : Value} {zs : List Int} {y : Int} (hgd : o.guard = none) (s x : Operand) (ho : o.op = .call { callee := .builtin .append, args := #[s, x], argTypes := #[t, t] })
    (ht : Try.prog.underlying t = some (.slice 2)) (hown : RowZ W g0 w v zs) (hl : zs.length ≤ 1099511627776) (hB : g0 ≤ w.heap.size)
    (hs : a.eval s = v) (g : Nat) (hx : a.eval x = .slice (some ⟨g, 0, none⟩) 1 1) (hc : w.cell? ⟨g, 0, none⟩ = some (.int .i64 y))
    (h : ∀ v' w', RowZ W g0 w' v' (zs ++ [y]) → (∀ k, k < W.heap.size → k ≠ g0 → w'.heap[k]? = w.heap[k]?) → K (a.put o.dst v') w') :
    if Region.wanted o (yielded ops a.tmps) = true then Oper.wp Try.prog o a w K Q else E := by
  have hi2 := info2
  cases hi : Try.prog.info? 2 with
  | none => rw [hi] at hi2; cases hi2
  | some i =>
  rw [hi] at hi2
  simp only [Option.map_some, Option.some.injEq, Prod.mk.injEq] at hi2
  have hown1 := hown.1
  have hsz := hown.size
  refine step_append_lies w hgd s x t ho g0 2 i (.int .i64 0) 1 8 ht hi hi2.1 hi2.2.1 hi2.2.2 rfl (by decide) v zs.length (cellsI zs) hs hown1 ⟨g, 0, none⟩ 1 1 [.int .i64 y] hx (by simp) ?_ ?_ (by decide) (by unfold maxLen; omega) (by omega) hB w.heap.size rfl ?_
  · intro j u hj
    cases j with
    | zero => simp only [List.getElem?_cons_zero, Option.some.injEq] at hj; subst hj; simpa [Addr.add] using hc
    | succ j => simp at hj
  · intro u hu; simp only [List.mem_singleton] at hu; subst hu; rfl
  · intro g' cap w1 hown2 hgrow hat hlt
    have hk9 : ∀ k, k < W.heap.size → k ≠ g0 → w1.heap[k]? = w.heap[k]? := fun k hk hn => hgrow.block k (by omega) (fun h9 => by
      rcases hown.2.2 k h9.symm with h8 | h8
      · exact hn h8
      · omega)
    refine h _ w1 ⟨by simpa [RowI, cellsI] using hown2, ⟨hgrow.os.trans hown.2.1.os, hgrow.tape.trans hown.2.1.tape, hgrow.output.trans hown.2.1.output, Nat.le_trans hsz hgrow.size, fun k hk hd => (hk9 k hk (by omega)).trans (hown.2.1.block k hk hd)⟩, fun k hk => ?_⟩ hk9
    simp only [Value.ownBlock, Option.some.injEq] at hk
    rcases hat with h9 | h9
    · exact hown.2.2 k (by rw [← hk]; exact h9)
    · right; omega
end
theorem RdI.blk {w w' : World} {v : Value} {zs : List Int} (h : RdI w v zs) (hb : ∀ p n c, v = .slice (some p) n c → w'.heap[p.block]? = w.heap[p.block]?) : RdI w' v zs := by
  obtain ⟨ao, cp, rfl, hcp, hx⟩ := h
  refine ⟨ao, cp, rfl, hcp, ?_⟩
  rcases hx with hx | ⟨b, off, rfl, hc⟩
  · exact .inl hx
  · exact .inr ⟨b, off, rfl, fun i hi => by rw [World.cell?_of_block (w := w) (a := ⟨b, off + i, none⟩) (hb ⟨b, off, none⟩ _ _ rfl)]; exact hc i hi⟩
theorem RdI.one {w : World} {b : Nat} {z : Int} (h : w.cell? ⟨b, 0, none⟩ = some (.int .i64 z)) : RdI w (.slice (some ⟨b, 0, none⟩) 1 1) [z] :=
  ⟨some ⟨b, 0, none⟩, 1, rfl, ⟨Nat.le_refl _, by decide⟩, .inr ⟨b, 0, rfl, fun i hi => by
    obtain rfl : i = 0 := by simp at hi; exact hi
    exact h⟩⟩
theorem atZ_nat (zs : List Int) (k : Nat) : atZ zs (k : Int) = zs.getD k 0 := by
  unfold atZ
  split
  · simp
  · rename_i h
    simp only [List.getD]
    rw [List.getElem?_eq_none (by omega)]; rfl

theorem cellZ {w : World} {g k : Nat} {u : Value} (h : k ≠ g) : (w.setCell ⟨g, 0, none⟩ u).cell? ⟨k, 0, none⟩ = w.cell? ⟨k, 0, none⟩ := World.cell?_of_block (w := w) (Below.heap_setCell _ _ _ _ h)
end Go.Proofs.Ytlnjkjogedbhfaa

/- LiftPair: what holds of its arguments, and the text of a function from a statement on. Conditions: none. -/
namespace Go.Proofs.Ytlnjkjogedbhfaa
open Go Go.RowKit
set_option linter.unusedSimpArgs false
set_option linter.unusedVariables false

/-- What holds of the arguments once they are told to be good. -/
structure LiftK (w : World) (m : Int) (p g h : List Int) (pp : Option Addr) (qp : Nat) (pg : Option Addr) (qg : Nat) (ph : Option Addr) (qh : Nat) : Prop where
  rp : RdI w (.slice pp p.length qp) p
  rg : RdI w (.slice pg g.length qg) g
  rh : RdI w (.slice ph h.length qh) h
  c : LiftC m p g h
  ho : liftR m p g h = (liftZ m g (upU m p g h), liftZ m h (upV m p g h), true)
  vp : validB p = true
  lg : g.length ≤ 17
  lh : h.length ≤ 17
/-- The text of the function, from its n-th statement on. -/
def dropC : Nat → Code → Code
  | 0, c => c
  | n + 1, .seq _ b => dropC n b
  | _ + 1, c => c
/-- The first statement. -/
def headC : Code → Code
  | .seq a _ => a
  | c => c
end Go.Proofs.Ytlnjkjogedbhfaa

/- LiftPair of the program: its walk. Conditions: lengths of at most 2^40. -/
namespace Go.Proofs.Ytlnjkjogedbhfaa
open Go Go.RowKit
set_option linter.unusedSimpArgs false
set_option linter.unusedVariables false

/-- Two new wholes, in parts of memory of their own, and whether they are there. -/
def RLift (F : List Int × List Int × Bool) (w : World) (e : Ending) (w' : World) : Prop := ∃ v1 v2 mid, e = .returned (.tuple #[.agg #[v1], .agg #[v2], .bool F.2.2]) ∧ w.heap.size ≤ mid ∧ mid ≤ w'.heap.size ∧ OwR w' w.heap.size mid v1 F.1 ∧ OwR w' mid w'.heap.size v2 F.2.1 ∧ Below w.heap.size w w'
theorem OwR.nil (w : World) (lo hi : Nat) : OwR w lo hi (.slice none 0 0) [] := ⟨OwI.nil _ _, fun g n c h => by simp at h⟩
/-- The call's boxes. -/
structure LB (w : World) (m : Int) (p g h : List Int) (pp : Option Addr) (qp : Nat) (pg : Option Addr) (qg : Nat) (ph : Option Addr) (qh : Nat) (wr : World) : Prop where
  c4 : wr.cell? ⟨w.heap.size, 0, none⟩ = some (.slice pp p.length qp)
  c5 : wr.cell? ⟨w.heap.size + 1, 0, none⟩ = some (.slice pg g.length qg)
  c6 : wr.cell? ⟨w.heap.size + 1 + 1, 0, none⟩ = some (.slice ph h.length qh)
  c7 : wr.cell? ⟨w.heap.size + 1 + 1 + 1, 0, none⟩ = some (.int .i64 m)
  c8 : wr.cell? ⟨w.heap.size + 1 + 1 + 1 + 1, 0, none⟩ = some (.slice none 0 0)
  f8 : wr.frozen? ⟨w.heap.size + 1 + 1 + 1 + 1, 0, none⟩ = false
  c9 : wr.cell? ⟨w.heap.size + 1 + 1 + 1 + 1 + 1, 0, none⟩ = some (.slice none 0 0)
  f9 : wr.frozen? ⟨w.heap.size + 1 + 1 + 1 + 1 + 1, 0, none⟩ = false
  bel : Below w.heap.size w wr
theorem LB.below {w : World} {m : Int} {p g h : List Int} {pp : Option Addr} {qp : Nat} {pg : Option Addr} {qg : Nat} {ph : Option Addr} {qh : Nat} {wr w' : World} (H : LB w m p g h pp qp pg qg ph qh wr) (hb : Below wr.heap.size wr w') : LB w m p g h pp qp pg qg ph qh w' :=
  have l8 := World.block_lt_of_cell? _ _ H.c8
  have l9 := World.block_lt_of_cell? _ _ H.c9
  ⟨(hb.cell (World.block_lt_of_cell? _ _ H.c4)).trans H.c4, (hb.cell (World.block_lt_of_cell? _ _ H.c5)).trans H.c5, (hb.cell (World.block_lt_of_cell? _ _ H.c6)).trans H.c6, (hb.cell (World.block_lt_of_cell? _ _ H.c7)).trans H.c7,
   (hb.cell l8).trans H.c8, (hb.frozen l8).trans H.f8, (hb.cell l9).trans H.c9, (hb.frozen l9).trans H.f9, H.bel.trans (hb.mono H.bel.size)⟩
theorem LB.lt {w : World} {m : Int} {p g h : List Int} {pp : Option Addr} {qp : Nat} {pg : Option Addr} {qg : Nat} {ph : Option Addr} {qh : Nat} {wr : World} (H : LB w m p g h pp qp pg qg ph qh wr) : w.heap.size + 6 ≤ wr.heap.size := by
  have := World.block_lt_of_cell? _ _ H.c9
  simp only at this
  omega
/-- A box with a list that can be read. -/
def BxW (wr : World) (a : Nat) (zs : List Int) : Prop := ∃ p q, wr.cell? ⟨a, 0, none⟩ = some (.slice p zs.length q) ∧ RdI wr (.slice p zs.length q) zs
theorem BxW.lt {w : World} {a : Nat} {zs : List Int} (h : BxW w a zs) : a < w.heap.size := by
  obtain ⟨p, q, h1, _⟩ := h
  exact World.block_lt_of_cell? _ _ h1
theorem BxW.below {w w' : World} {a : Nat} {zs : List Int} (h : BxW w a zs) (hb : Below w.heap.size w w') : BxW w' a zs := by
  have hl := h.lt
  obtain ⟨p, q, h1, h3⟩ := h
  exact ⟨p, q, (hb.cell (p := ⟨a, 0, none⟩) hl).trans h1, h3.below hb⟩
theorem cell_set_some {w : World} {a : Addr} {u : Value} (h : (w.cell? a).isSome = true) : (w.setCell a u).cell? a = some u := by
  obtain ⟨v, hv⟩ := Option.isSome_iff_exists.1 h
  exact World.cell?_setCell_same _ _ _ hv
theorem degree_b (ao : Option Addr) (n cap : Nat) (w : World) (hl : n ≤ 1099511627776) : Calls Try.prog 79 #[.agg #[.slice ao n cap]] w (RZ ((n : Int) - 1) w) := (degree_exact ao n cap w hl).mono fun e w' h => ⟨h.1, by rw [h.2]; exact (Below.refl _ _).alloc (Nat.le_refl _) _⟩
theorem gcd_single {m : Int} (hm : primeB m = true) {g h : List Int} (og : Ovr m g) (oh : Ovr m h) (hz : zeroB g = false) : (monicF m (gcdZ m g h) == [1]) = decide ((gcdZ m g h).length = 1) := by
  have o := gcdZ_ovr hm (Nat.lt_succ_self _) og oh
  have nz := gcdZ_nz hm (Nat.lt_succ_self _) og oh hz
  rw [monic_eq hm o.ov o.trd]
  have hl := monicS_length m (gcdZ m g h)
  have hlast := scale_last hm o.ov o.trd nz
  have hs : monicS m (gcdZ m g h) = scaleZ (invZ (lastZ (gcdZ m g h)) m) m (gcdZ m g h) := by unfold monicS; rw [nz]; rfl
  rw [← hs] at hlast
  by_cases h1 : (gcdZ m g h).length = 1
  · rw [decide_eq_true h1]
    match hx : monicS m (gcdZ m g h), hl.trans h1 with
    | [x], _ =>
      rw [hx, h1] at hlast
      simp only [Nat.sub_self, List.getD_cons_zero] at hlast
      rw [hlast]; rfl
  · rw [decide_eq_false h1, beq_eq_false_iff_ne]
    intro h2
    rw [h2] at hl
    simp at hl
    omega

/-- The program's text. -/
noncomputable def liftCode : Code := (Try.f18.body).getD .skip

set_option maxRecDepth 100000 in
/-- What follows from statement 3 on. -/
def LT3 : Prop := ∀ {w : World} {m : Int} {p g h : List Int} {pp : Option Addr} {qp : Nat} {pg : Option Addr} {qg : Nat} {ph : Option Addr} {qh : Nat} {wr : World}  {x0 x1 x2 x3 x10 x11 x12 x13 x14 x15 x16 x17 x18 x19 x20 x21 x22 x23 x24 x25 x26 x27 x28 x29 x30 x31 x32 x33 x34 x35 x36 x37 x38 x39 x40 x41 x42 x43 x44 x45 x46 x47 x48 x49 x50 x51 x52 x53 x54 x55 x56 x57 x58 x59 x60 x61 x62 x63 x64 x65 x66 x67 x68 x69 x70 x71 x72 x73 x74 x75 x76 x77 x78 x79 x80 x81 x82 x83 x84 x85 x86 x87 x88 x89 x90 x91 x92 x93 x94 x95 x96 x97 x98 x99 x100 x101 x102 x103 x104 x105 x106 x107 x108 x109 x110 x111 x112 x113 x114 x115 x116 x117 x118 x119 x120 x121 x122 x123 x124 x125 x126 x127 x128 x129 x130 x131 x132 x133 x134 x135 x136 x137 x138 x139 x140 x141 x142 x143 x144 x145 x146 x147 x148 x149 x150 x151 x152 x153 x154 x155 x156 x157 x158 x159 x160 x161 x162 x163 x164 x165 x166 x167 x168 x169 x170 x171 x172 x173 x174 x175 x176 x177 x178 x179 x180 x181 x182 x183 x184 : Value} , LiftK w m p g h pp qp pg qg ph qh → LB w m p g h pp qp pg qg ph qh wr → (dropC 3 liftCode).wp Try.prog (bodyPost Try.prog Try.f18 (RLift (liftR m p g h) w)) ⟨List.toArray (x0 :: x1 :: x2 :: x3 :: .pointer (some ⟨w.heap.size, 0, none⟩) :: .pointer (some ⟨w.heap.size + 1, 0, none⟩) :: .pointer (some ⟨w.heap.size + 1 + 1, 0, none⟩) :: .pointer (some ⟨w.heap.size + 1 + 1 + 1, 0, none⟩) :: .pointer (some ⟨w.heap.size + 1 + 1 + 1 + 1, 0, none⟩) :: .pointer (some ⟨w.heap.size + 1 + 1 + 1 + 1 + 1, 0, none⟩) :: x10 :: x11 :: x12 :: x13 :: x14 :: x15 :: x16 :: x17 :: x18 :: x19 :: x20 :: x21 :: x22 :: x23 :: x24 :: x25 :: x26 :: x27 :: x28 :: x29 :: x30 :: x31 :: x32 :: x33 :: x34 :: x35 :: x36 :: x37 :: x38 :: x39 :: x40 :: x41 :: x42 :: x43 :: x44 :: x45 :: x46 :: x47 :: x48 :: x49 :: x50 :: x51 :: x52 :: x53 :: x54 :: x55 :: x56 :: x57 :: x58 :: x59 :: x60 :: x61 :: x62 :: x63 :: x64 :: x65 :: x66 :: x67 :: x68 :: x69 :: x70 :: x71 :: x72 :: x73 :: x74 :: x75 :: x76 :: x77 :: x78 :: x79 :: x80 :: x81 :: x82 :: x83 :: x84 :: x85 :: x86 :: x87 :: x88 :: x89 :: x90 :: x91 :: x92 :: x93 :: x94 :: x95 :: x96 :: x97 :: x98 :: x99 :: x100 :: x101 :: x102 :: x103 :: x104 :: x105 :: x106 :: x107 :: x108 :: x109 :: x110 :: x111 :: x112 :: x113 :: x114 :: x115 :: x116 :: x117 :: x118 :: x119 :: x120 :: x121 :: x122 :: x123 :: x124 :: x125 :: x126 :: x127 :: x128 :: x129 :: x130 :: x131 :: x132 :: x133 :: x134 :: x135 :: x136 :: x137 :: x138 :: x139 :: x140 :: x141 :: x142 :: x143 :: x144 :: x145 :: x146 :: x147 :: x148 :: x149 :: x150 :: x151 :: x152 :: x153 :: x154 :: x155 :: x156 :: x157 :: x158 :: x159 :: x160 :: x161 :: x162 :: x163 :: x164 :: x165 :: x166 :: x167 :: x168 :: x169 :: x170 :: x171 :: x172 :: x173 :: x174 :: x175 :: x176 :: x177 :: x178 :: x179 :: x180 :: x181 :: x182 :: x183 :: x184 :: []), []⟩ wr

set_option maxRecDepth 100000 in
/-- What follows from statement 8 on. -/
def LT8 : Prop := ∀ {w : World} {m : Int} {p g h : List Int} {pp : Option Addr} {qp : Nat} {pg : Option Addr} {qg : Nat} {ph : Option Addr} {qh : Nat} {wr : World} {a15 a17 : Nat} {x0 x1 x2 x3 x10 x11 x12 x13 x14 x16 x18 x19 x20 x21 x22 x23 x24 x25 x26 x27 x28 x29 x30 x31 x32 x33 x34 x35 x36 x37 x38 x39 x40 x41 x42 x43 x44 x45 x46 x47 x48 x49 x50 x51 x52 x53 x54 x55 x56 x57 x58 x59 x60 x61 x62 x63 x64 x65 x66 x67 x68 x69 x70 x71 x72 x73 x74 x75 x76 x77 x78 x79 x80 x81 x82 x83 x84 x85 x86 x87 x88 x89 x90 x91 x92 x93 x94 x95 x96 x97 x98 x99 x100 x101 x102 x103 x104 x105 x106 x107 x108 x109 x110 x111 x112 x113 x114 x115 x116 x117 x118 x119 x120 x121 x122 x123 x124 x125 x126 x127 x128 x129 x130 x131 x132 x133 x134 x135 x136 x137 x138 x139 x140 x141 x142 x143 x144 x145 x146 x147 x148 x149 x150 x151 x152 x153 x154 x155 x156 x157 x158 x159 x160 x161 x162 x163 x164 x165 x166 x167 x168 x169 x170 x171 x172 x173 x174 x175 x176 x177 x178 x179 x180 x181 x182 x183 x184 : Value} , LiftK w m p g h pp qp pg qg ph qh → LB w m p g h pp qp pg qg ph qh wr → BxW wr a15 (misZ m p g h) → BxW wr a17 (bzT m g h) → (dropC 8 liftCode).wp Try.prog (bodyPost Try.prog Try.f18 (RLift (liftR m p g h) w)) ⟨List.toArray (x0 :: x1 :: x2 :: x3 :: .pointer (some ⟨w.heap.size, 0, none⟩) :: .pointer (some ⟨w.heap.size + 1, 0, none⟩) :: .pointer (some ⟨w.heap.size + 1 + 1, 0, none⟩) :: .pointer (some ⟨w.heap.size + 1 + 1 + 1, 0, none⟩) :: .pointer (some ⟨w.heap.size + 1 + 1 + 1 + 1, 0, none⟩) :: .pointer (some ⟨w.heap.size + 1 + 1 + 1 + 1 + 1, 0, none⟩) :: x10 :: x11 :: x12 :: x13 :: x14 :: .pointer (some ⟨a15, 0, none⟩) :: x16 :: .pointer (some ⟨a17, 0, none⟩) :: x18 :: x19 :: x20 :: x21 :: x22 :: x23 :: x24 :: x25 :: x26 :: x27 :: x28 :: x29 :: x30 :: x31 :: x32 :: x33 :: x34 :: x35 :: x36 :: x37 :: x38 :: x39 :: x40 :: x41 :: x42 :: x43 :: x44 :: x45 :: x46 :: x47 :: x48 :: x49 :: x50 :: x51 :: x52 :: x53 :: x54 :: x55 :: x56 :: x57 :: x58 :: x59 :: x60 :: x61 :: x62 :: x63 :: x64 :: x65 :: x66 :: x67 :: x68 :: x69 :: x70 :: x71 :: x72 :: x73 :: x74 :: x75 :: x76 :: x77 :: x78 :: x79 :: x80 :: x81 :: x82 :: x83 :: x84 :: x85 :: x86 :: x87 :: x88 :: x89 :: x90 :: x91 :: x92 :: x93 :: x94 :: x95 :: x96 :: x97 :: x98 :: x99 :: x100 :: x101 :: x102 :: x103 :: x104 :: x105 :: x106 :: x107 :: x108 :: x109 :: x110 :: x111 :: x112 :: x113 :: x114 :: x115 :: x116 :: x117 :: x118 :: x119 :: x120 :: x121 :: x122 :: x123 :: x124 :: x125 :: x126 :: x127 :: x128 :: x129 :: x130 :: x131 :: x132 :: x133 :: x134 :: x135 :: x136 :: x137 :: x138 :: x139 :: x140 :: x141 :: x142 :: x143 :: x144 :: x145 :: x146 :: x147 :: x148 :: x149 :: x150 :: x151 :: x152 :: x153 :: x154 :: x155 :: x156 :: x157 :: x158 :: x159 :: x160 :: x161 :: x162 :: x163 :: x164 :: x165 :: x166 :: x167 :: x168 :: x169 :: x170 :: x171 :: x172 :: x173 :: x174 :: x175 :: x176 :: x177 :: x178 :: x179 :: x180 :: x181 :: x182 :: x183 :: x184 :: []), []⟩ wr

set_option maxRecDepth 100000 in
/-- What follows from statement 9 on. -/
def LT9 : Prop := ∀ {w : World} {m : Int} {p g h : List Int} {pp : Option Addr} {qp : Nat} {pg : Option Addr} {qg : Nat} {ph : Option Addr} {qh : Nat} {wr : World} {a15 a19 : Nat} {x0 x1 x2 x3 x10 x11 x12 x13 x14 x16 x17 x18 x20 x21 x22 x23 x24 x25 x26 x27 x28 x29 x30 x31 x32 x33 x34 x35 x36 x37 x38 x39 x40 x41 x42 x43 x44 x45 x46 x47 x48 x49 x50 x51 x52 x53 x54 x55 x56 x57 x58 x59 x60 x61 x62 x63 x64 x65 x66 x67 x68 x69 x70 x71 x72 x73 x74 x75 x76 x77 x78 x79 x80 x81 x82 x83 x84 x85 x86 x87 x88 x89 x90 x91 x92 x93 x94 x95 x96 x97 x98 x99 x100 x101 x102 x103 x104 x105 x106 x107 x108 x109 x110 x111 x112 x113 x114 x115 x116 x117 x118 x119 x120 x121 x122 x123 x124 x125 x126 x127 x128 x129 x130 x131 x132 x133 x134 x135 x136 x137 x138 x139 x140 x141 x142 x143 x144 x145 x146 x147 x148 x149 x150 x151 x152 x153 x154 x155 x156 x157 x158 x159 x160 x161 x162 x163 x164 x165 x166 x167 x168 x169 x170 x171 x172 x173 x174 x175 x176 x177 x178 x179 x180 x181 x182 x183 x184 : Value} , LiftK w m p g h pp qp pg qg ph qh → LB w m p g h pp qp pg qg ph qh wr → w.heap.size + 6 ≤ a19 → BxW wr a15 (misZ m p g h) → BxW wr a19 (upU m p g h) → (dropC 9 liftCode).wp Try.prog (bodyPost Try.prog Try.f18 (RLift (liftR m p g h) w)) ⟨List.toArray (x0 :: x1 :: x2 :: x3 :: .pointer (some ⟨w.heap.size, 0, none⟩) :: .pointer (some ⟨w.heap.size + 1, 0, none⟩) :: .pointer (some ⟨w.heap.size + 1 + 1, 0, none⟩) :: .pointer (some ⟨w.heap.size + 1 + 1 + 1, 0, none⟩) :: .pointer (some ⟨w.heap.size + 1 + 1 + 1 + 1, 0, none⟩) :: .pointer (some ⟨w.heap.size + 1 + 1 + 1 + 1 + 1, 0, none⟩) :: x10 :: x11 :: x12 :: x13 :: x14 :: .pointer (some ⟨a15, 0, none⟩) :: x16 :: x17 :: x18 :: .pointer (some ⟨a19, 0, none⟩) :: x20 :: x21 :: x22 :: x23 :: x24 :: x25 :: x26 :: x27 :: x28 :: x29 :: x30 :: x31 :: x32 :: x33 :: x34 :: x35 :: x36 :: x37 :: x38 :: x39 :: x40 :: x41 :: x42 :: x43 :: x44 :: x45 :: x46 :: x47 :: x48 :: x49 :: x50 :: x51 :: x52 :: x53 :: x54 :: x55 :: x56 :: x57 :: x58 :: x59 :: x60 :: x61 :: x62 :: x63 :: x64 :: x65 :: x66 :: x67 :: x68 :: x69 :: x70 :: x71 :: x72 :: x73 :: x74 :: x75 :: x76 :: x77 :: x78 :: x79 :: x80 :: x81 :: x82 :: x83 :: x84 :: x85 :: x86 :: x87 :: x88 :: x89 :: x90 :: x91 :: x92 :: x93 :: x94 :: x95 :: x96 :: x97 :: x98 :: x99 :: x100 :: x101 :: x102 :: x103 :: x104 :: x105 :: x106 :: x107 :: x108 :: x109 :: x110 :: x111 :: x112 :: x113 :: x114 :: x115 :: x116 :: x117 :: x118 :: x119 :: x120 :: x121 :: x122 :: x123 :: x124 :: x125 :: x126 :: x127 :: x128 :: x129 :: x130 :: x131 :: x132 :: x133 :: x134 :: x135 :: x136 :: x137 :: x138 :: x139 :: x140 :: x141 :: x142 :: x143 :: x144 :: x145 :: x146 :: x147 :: x148 :: x149 :: x150 :: x151 :: x152 :: x153 :: x154 :: x155 :: x156 :: x157 :: x158 :: x159 :: x160 :: x161 :: x162 :: x163 :: x164 :: x165 :: x166 :: x167 :: x168 :: x169 :: x170 :: x171 :: x172 :: x173 :: x174 :: x175 :: x176 :: x177 :: x178 :: x179 :: x180 :: x181 :: x182 :: x183 :: x184 :: []), []⟩ wr

set_option maxRecDepth 100000 in
/-- What follows from statement 12 on. -/
def LT12 : Prop := ∀ {w : World} {m : Int} {p g h : List Int} {pp : Option Addr} {qp : Nat} {pg : Option Addr} {qg : Nat} {ph : Option Addr} {qh : Nat} {wr : World} {a19 g0 : Nat} {p5 : Option Addr} {n5 : Nat} {Lf : List Int} {x0 x1 x2 x3 x10 x11 x12 x13 x14 x15 x16 x17 x18 x21 x22 x23 x24 x25 x26 x27 x28 x29 x30 x31 x32 x33 x34 x35 x36 x37 x38 x39 x40 x41 x42 x43 x44 x45 x46 x47 x48 x49 x50 x51 x52 x53 x54 x55 x56 x57 x58 x59 x60 x61 x62 x63 x64 x65 x66 x67 x68 x69 x70 x71 x72 x73 x74 x75 x76 x77 x78 x79 x80 x81 x82 x83 x84 x85 x86 x87 x88 x89 x90 x91 x92 x93 x94 x95 x96 x97 x98 x99 x100 x101 x102 x103 x104 x105 x106 x107 x108 x109 x110 x111 x112 x113 x114 x115 x116 x117 x118 x119 x120 x121 x122 x123 x124 x125 x126 x127 x128 x129 x130 x131 x132 x133 x134 x135 x136 x137 x138 x139 x140 x141 x142 x143 x144 x145 x146 x147 x148 x149 x150 x151 x152 x153 x154 x155 x156 x157 x158 x159 x160 x161 x162 x163 x164 x165 x166 x167 x168 x169 x170 x171 x172 x173 x174 x175 x176 x177 x178 x179 x180 x181 x182 x183 x184 : Value} {K : Act → World → Prop} , LiftK w m p g h pp qp pg qg ph qh → LB w m p g h pp qp pg qg ph qh wr → w.heap.size + 6 ≤ a19 → BxW wr a19 (upU m p g h) → OwI wr g0 (.slice p5 Lf.length n5) Lf → leftZ m p g h = trimZ Lf → Lf.length ≤ 1099511627776 → (∀ a' w', (dropC 13 liftCode).wp Try.prog (bodyPost Try.prog Try.f18 (RLift (liftR m p g h) w)) a' w' → K a' w') → (headC (dropC 12 liftCode)).wp Try.prog (Exit.then K (bodyPost Try.prog Try.f18 (RLift (liftR m p g h) w))) ⟨List.toArray (x0 :: x1 :: x2 :: x3 :: .pointer (some ⟨w.heap.size, 0, none⟩) :: .pointer (some ⟨w.heap.size + 1, 0, none⟩) :: .pointer (some ⟨w.heap.size + 1 + 1, 0, none⟩) :: .pointer (some ⟨w.heap.size + 1 + 1 + 1, 0, none⟩) :: .pointer (some ⟨w.heap.size + 1 + 1 + 1 + 1, 0, none⟩) :: .pointer (some ⟨w.heap.size + 1 + 1 + 1 + 1 + 1, 0, none⟩) :: x10 :: x11 :: x12 :: x13 :: x14 :: x15 :: x16 :: x17 :: x18 :: .pointer (some ⟨a19, 0, none⟩) :: .slice p5 Lf.length n5 :: x21 :: x22 :: x23 :: x24 :: x25 :: x26 :: x27 :: x28 :: x29 :: x30 :: x31 :: x32 :: x33 :: x34 :: x35 :: x36 :: x37 :: x38 :: x39 :: x40 :: x41 :: x42 :: x43 :: x44 :: x45 :: x46 :: x47 :: x48 :: x49 :: x50 :: x51 :: x52 :: x53 :: x54 :: x55 :: x56 :: x57 :: x58 :: x59 :: x60 :: x61 :: x62 :: x63 :: x64 :: x65 :: x66 :: x67 :: x68 :: x69 :: x70 :: x71 :: x72 :: x73 :: x74 :: x75 :: x76 :: x77 :: x78 :: x79 :: x80 :: x81 :: x82 :: x83 :: x84 :: x85 :: x86 :: x87 :: x88 :: x89 :: x90 :: x91 :: x92 :: x93 :: x94 :: x95 :: x96 :: x97 :: x98 :: x99 :: x100 :: x101 :: x102 :: x103 :: x104 :: x105 :: x106 :: x107 :: x108 :: x109 :: x110 :: x111 :: x112 :: x113 :: x114 :: x115 :: x116 :: x117 :: x118 :: x119 :: x120 :: x121 :: x122 :: x123 :: x124 :: x125 :: x126 :: x127 :: x128 :: x129 :: x130 :: x131 :: x132 :: x133 :: x134 :: x135 :: x136 :: x137 :: x138 :: x139 :: x140 :: x141 :: x142 :: x143 :: x144 :: x145 :: x146 :: x147 :: x148 :: x149 :: x150 :: x151 :: x152 :: x153 :: x154 :: x155 :: x156 :: x157 :: x158 :: x159 :: x160 :: x161 :: x162 :: x163 :: x164 :: x165 :: x166 :: x167 :: x168 :: x169 :: x170 :: x171 :: x172 :: x173 :: x174 :: x175 :: x176 :: x177 :: x178 :: x179 :: x180 :: x181 :: x182 :: x183 :: x184 :: []), []⟩ wr

set_option maxRecDepth 100000 in
/-- What follows from statement 13 on. -/
def LT13 : Prop := ∀ {w : World} {m : Int} {p g h : List Int} {pp : Option Addr} {qp : Nat} {pg : Option Addr} {qg : Nat} {ph : Option Addr} {qh : Nat} {wr : World} {a19 a23 : Nat} {x0 x1 x2 x3 x10 x11 x12 x13 x14 x15 x16 x17 x18 x20 x21 x22 x24 x25 x26 x27 x28 x29 x30 x31 x32 x33 x34 x35 x36 x37 x38 x39 x40 x41 x42 x43 x44 x45 x46 x47 x48 x49 x50 x51 x52 x53 x54 x55 x56 x57 x58 x59 x60 x61 x62 x63 x64 x65 x66 x67 x68 x69 x70 x71 x72 x73 x74 x75 x76 x77 x78 x79 x80 x81 x82 x83 x84 x85 x86 x87 x88 x89 x90 x91 x92 x93 x94 x95 x96 x97 x98 x99 x100 x101 x102 x103 x104 x105 x106 x107 x108 x109 x110 x111 x112 x113 x114 x115 x116 x117 x118 x119 x120 x121 x122 x123 x124 x125 x126 x127 x128 x129 x130 x131 x132 x133 x134 x135 x136 x137 x138 x139 x140 x141 x142 x143 x144 x145 x146 x147 x148 x149 x150 x151 x152 x153 x154 x155 x156 x157 x158 x159 x160 x161 x162 x163 x164 x165 x166 x167 x168 x169 x170 x171 x172 x173 x174 x175 x176 x177 x178 x179 x180 x181 x182 x183 x184 : Value} , LiftK w m p g h pp qp pg qg ph qh → LB w m p g h pp qp pg qg ph qh wr → w.heap.size + 6 ≤ a19 → w.heap.size + 6 ≤ a23 → BxW wr a19 (upU m p g h) → BxW wr a23 (upV m p g h) → (dropC 13 liftCode).wp Try.prog (bodyPost Try.prog Try.f18 (RLift (liftR m p g h) w)) ⟨List.toArray (x0 :: x1 :: x2 :: x3 :: .pointer (some ⟨w.heap.size, 0, none⟩) :: .pointer (some ⟨w.heap.size + 1, 0, none⟩) :: .pointer (some ⟨w.heap.size + 1 + 1, 0, none⟩) :: .pointer (some ⟨w.heap.size + 1 + 1 + 1, 0, none⟩) :: .pointer (some ⟨w.heap.size + 1 + 1 + 1 + 1, 0, none⟩) :: .pointer (some ⟨w.heap.size + 1 + 1 + 1 + 1 + 1, 0, none⟩) :: x10 :: x11 :: x12 :: x13 :: x14 :: x15 :: x16 :: x17 :: x18 :: .pointer (some ⟨a19, 0, none⟩) :: x20 :: x21 :: x22 :: .pointer (some ⟨a23, 0, none⟩) :: x24 :: x25 :: x26 :: x27 :: x28 :: x29 :: x30 :: x31 :: x32 :: x33 :: x34 :: x35 :: x36 :: x37 :: x38 :: x39 :: x40 :: x41 :: x42 :: x43 :: x44 :: x45 :: x46 :: x47 :: x48 :: x49 :: x50 :: x51 :: x52 :: x53 :: x54 :: x55 :: x56 :: x57 :: x58 :: x59 :: x60 :: x61 :: x62 :: x63 :: x64 :: x65 :: x66 :: x67 :: x68 :: x69 :: x70 :: x71 :: x72 :: x73 :: x74 :: x75 :: x76 :: x77 :: x78 :: x79 :: x80 :: x81 :: x82 :: x83 :: x84 :: x85 :: x86 :: x87 :: x88 :: x89 :: x90 :: x91 :: x92 :: x93 :: x94 :: x95 :: x96 :: x97 :: x98 :: x99 :: x100 :: x101 :: x102 :: x103 :: x104 :: x105 :: x106 :: x107 :: x108 :: x109 :: x110 :: x111 :: x112 :: x113 :: x114 :: x115 :: x116 :: x117 :: x118 :: x119 :: x120 :: x121 :: x122 :: x123 :: x124 :: x125 :: x126 :: x127 :: x128 :: x129 :: x130 :: x131 :: x132 :: x133 :: x134 :: x135 :: x136 :: x137 :: x138 :: x139 :: x140 :: x141 :: x142 :: x143 :: x144 :: x145 :: x146 :: x147 :: x148 :: x149 :: x150 :: x151 :: x152 :: x153 :: x154 :: x155 :: x156 :: x157 :: x158 :: x159 :: x160 :: x161 :: x162 :: x163 :: x164 :: x165 :: x166 :: x167 :: x168 :: x169 :: x170 :: x171 :: x172 :: x173 :: x174 :: x175 :: x176 :: x177 :: x178 :: x179 :: x180 :: x181 :: x182 :: x183 :: x184 :: []), []⟩ wr
end Go.Proofs.Ytlnjkjogedbhfaa

/- A whole over a prime that is drawn from bytes. Conditions: at most 2^20 bytes, a prime of at most 13, a degree of at most 8. -/
namespace Go.Proofs.Ytlnjkjogedbhfaa
open Go Go.RowKit
set_option linter.unusedSimpArgs false
set_option linter.unusedVariables false

theorem ov_snoc {m z : Int} {zs : List Int} (h : OvI m zs) (hz : 0 ≤ z ∧ z < m) : OvI m (zs ++ [z]) := fun i => by
  have h0 := h i
  simp only [List.getD] at h0 ⊢
  rcases Nat.lt_trichotomy i zs.length with h1 | h1 | h1
  · rw [List.getElem?_append_left h1]; exact h0
  · subst h1; rw [List.getElem?_append_right (Nat.le_refl _)]; simpa using hz
  · rw [List.getElem?_append_right (by omega), List.getElem?_eq_none (by simp; omega)]; simp; omega
/-- A drawn whole over a prime. -/
def ROvr (m most : Int) (w : World) (e : Ending) (w' : World) : Prop := ∃ u zs, e = .returned (.agg #[u]) ∧ OwI w' w.heap.size u zs ∧ Ovr m zs ∧ 2 ≤ zs.length ∧ (zs.length : Int) ≤ most + 1 ∧ Below w.heap.size w w'
set_option maxRecDepth 100000 in
set_option maxHeartbeats 1600000 in
theorem over_draw (v : Value) (bs : List Int) (m most : Int) (w : World) (hv : RdB w v bs) (hl : bs.length ≤ 1048576) (hm : 2 ≤ m ∧ m ≤ 13) (hmo : 1 ≤ most ∧ most ≤ 8) : Calls Try.prog 15 #[v, .int .i64 m, .int .i64 most] w (ROvr m most w) := by
  have Hv := Lib.hid hv
  have hvb := Lib.hid hv.blk
  obtain ⟨ao, cap, rfl⟩ := hv.shape
  clear hv
  go_enter Try.func15, Try.ntmps15
  go_wp2_with fail
  (go_at_call 63; ((with_reducible refine (from_spec _ bs _ (Hv.out.below (by (repeat' (first | (with_reducible exact Below.refl _ _) | (with_reducible assumption) | (with_reducible refine Below.alloc ?_ ?_ _) | (with_reducible refine Below.setCell ?_ ?_ _) | (with_reducible refine Below.drew ?_) | (with_reducible refine Below.via (by assumption) ?_ ?_) | go_size)))) hl).mono ?_); rintro e w1 ⟨rfl, hs1, hb1⟩))
  obtain ⟨c1, f1⟩ := bcell hb1
  have z1 := hb1.size
  simp only [World.size_alloc] at z1
  have Hs1 := Lib.hid hs1
  have sg := World.block_lt_of_cell? _ _ hs1.1
  have x0 : w1.cell? ⟨w.heap.size, 0, none⟩ = some (.slice none 0 0) := by go_simp
  have y0 : w1.frozen? ⟨w.heap.size, 0, none⟩ = false := by go_simp
  have Bw1 := Lib.hid (show Below w.heap.size w w1 by (repeat' (first | (with_reducible exact Below.refl _ _) | (with_reducible assumption) | (with_reducible refine Below.alloc ?_ ?_ _) | (with_reducible refine Below.setCell ?_ ?_ _) | (with_reducible refine Below.drew ?_) | (with_reducible refine Below.via (by assumption) ?_ ?_) | go_size)))
  simp only [World.size_alloc] at sg Hs1
  clear hs1 hb1 c1 f1
  go_wp2_with fail
  (go_at_call 64; ((with_reducible refine (pick_spec (w.heap.size + 1) _ bs 0 most _ (Hs1.out.below (by (repeat' (first | (with_reducible exact Below.refl _ _) | (with_reducible assumption) | (with_reducible refine Below.alloc ?_ ?_ _) | (with_reducible refine Below.setCell ?_ ?_ _) | (with_reducible refine Below.drew ?_) | (with_reducible refine Below.via (by assumption) ?_ ?_) | go_size)))) (by omega) (by omega) (by omega)).mono ?_); rintro e w2 ⟨z, k2, rfl, hz0, hz1, hk1, hk2, hs2, ho⟩))
  have Hs2 := Lib.hid hs2
  have z2 := ho.size
  simp only [World.size_alloc] at z2
  have HRow := Lib.hid (RowI.only (RowI.emptyB (E := fun _ => 0) (W := w1) (s := w1.heap.size) (B := w1.heap.size) rfl (Nat.le_refl _)) ho (by omega))
  have O1 := Lib.hid ((Only.ofBelow (lo := w.heap.size + 1) (hi := w.heap.size + 1 + 1) (show Below w1.heap.size w1 (w1.alloc (.cells #[] 2)) by (repeat' (first | (with_reducible exact Below.refl _ _) | (with_reducible assumption) | (with_reducible refine Below.alloc ?_ ?_ _) | (with_reducible refine Below.setCell ?_ ?_ _) | (with_reducible refine Below.drew ?_) | (with_reducible refine Below.via (by assumption) ?_ ?_) | go_size)))).trans ho)
  obtain ⟨n, hn⟩ : ∃ n : Nat, 1 + z = n := ⟨(1 + z).toNat, by omega⟩
  have hn2 : n ≤ 8 ∧ 1 ≤ n := by omega
  have hnm : (n : Int) ≤ most := by omega
  have hk20 : k2 ≤ 2 := by omega
  have sg1 : w.heap.size + 1 < w1.heap.size := by omega
  have X0 := Lib.hid x0
  have Y0 := Lib.hid y0
  clear hs2 ho x0 y0
  go_wp2_with fail
  (try rw [hn])
  go_loopw [8, 9] (fun ov nv wr => ∃ (j k' : Nat) (zs : List Int), j ≤ n ∧ nv = .int .i64 ((n : Int) - j) ∧ zs.length = j ∧ OvI m zs ∧ RowI wr w1.heap.size ov zs ∧ SrcI wr (w.heap.size + 1) (.slice ao bs.length cap) bs k' ∧ k' ≤ 10 + 2 * j ∧ Only (w.heap.size + 1) (w.heap.size + 1 + 1) w1 wr) (fun _ nv _ => (intOf nv).toNat)
  case atStart => exact ⟨0, k2, [], Nat.zero_le _, by simp, rfl, fun i => by simp; omega, HRow.out, Hs2.out, by omega, O1.out⟩
  case round =>
    obtain ⟨j, k', zs, hj, rfl, hlz, hov, hrow, hsr, hk', hon⟩ := hrel
    have Hrow := Lib.hid hrow
    have Hov := Lib.hid hov
    have Hsr := Lib.hid hsr
    have Hon := Lib.hid hon
    have hsz := hon.size
    clear hrow hov hsr hon
    have hvb2 := Lib.hid (fun p n c (h1 : bs ≠ []) (h2 : Value.slice ao bs.length cap = .slice (some p) n c) => (show p.block < w1.heap.size by have := hvb.out h1 p n c h2; omega))
    by_cases hlt : j < n
    · have hgt : (0 : Int) < (n : Int) - j := by omega
      go_wp2_with fail
      (go_at_call 64; ((with_reducible refine (pick_spec (w.heap.size + 1) _ bs k' m _ Hsr.out (by omega) (by omega) (by omega)).mono ?_); rintro e w3 ⟨z3, k3, rfl, hz30, hz31, hk31, hk32, hs3, ho3⟩))
      have Hs3 := Lib.hid hs3
      have Ho3 := Lib.hid ho3
      have hz3 := ho3.size
      have Hr3 := Lib.hid (Hrow.out.only ho3 (by omega))
      clear hs3 ho3
      have hlen : zs.length ≤ 1099511627776 := by omega
      go_wp2_with (at_builtin; refine wpList_pushI Hr3.out rfl _ _ rfl int64S_under hlen (by first | omega | (simp only [World.size_alloc]; omega)) rfl rfl ?_; intro v4 w4 hr4 hb4)
      go_roundw
      case rel => exact ⟨j + 1, k3, zs ++ [z3], by omega, by first | (congr 1; omega) | (simp; omega), by rw [List.length_append, List.length_singleton, hlz], ov_snoc Hov.out ⟨hz30, hz31⟩, hr4, Hs3.out.belowB hb4 (by omega) (fun p n c h1 h2 => hvb2.out p n c h1 h2), by omega, (Hon.out.trans Ho3.out).below' (hb4.mono (Nat.le_refl _))⟩
      case measure => simp [intOf]; omega
    · obtain rfl : j = n := by omega
      have hgt : ¬ ((0 : Int) < (j : Int) - j) := by omega
      have hm1 : IntKind.i64.wrap (m - 1) = m - 1 := IntWalk.i64_in _ ⟨by omega, by omega⟩
      go_wp2_with fail
      (go_at_call 64; ((with_reducible refine (pick_spec (w.heap.size + 1) _ bs k' (m - 1) _ Hsr.out (by omega) (by omega) (by omega)).mono ?_); rintro e w3 ⟨z3, k3, rfl, hz30, hz31, hk31, hk32, hs3, ho3⟩))
      have Ho3 := Lib.hid ho3
      have hz3 := ho3.size
      have Hr3 := Lib.hid (Hrow.out.only ho3 (by omega))
      clear hs3 ho3
      have hlen : zs.length ≤ 1099511627776 := by omega
      have HX3 := Lib.hid ((Ho3.out.cell (p := ⟨w.heap.size, 0, none⟩) (by simp only; omega) (by simp only; omega)).trans ((Hon.out.cell (p := ⟨w.heap.size, 0, none⟩) (by simp only; omega) (by simp only; omega)).trans X0.out))
      have HY3 := Lib.hid ((World.frozen?_of_block (w := wr) (a := ⟨w.heap.size, 0, none⟩) (Ho3.out.block w.heap.size (by omega) (by omega))).trans ((World.frozen?_of_block (w := w1) (a := ⟨w.heap.size, 0, none⟩) (Hon.out.block w.heap.size (by omega) (by omega))).trans Y0.out))
      have B3 := Lib.hid (Bw1.out.trans ((Hon.out.trans Ho3.out).toBelow (B := w.heap.size) (by omega) (by omega)))
      clear hm1
      have hm1 : IntKind.i64.wrap (1 + z3) = 1 + z3 := IntWalk.i64_in _ ⟨by omega, by omega⟩
      go_wp2_with (at_builtin; refine wpList_pushI Hr3.out rfl _ _ rfl int64S_under hlen (by first | omega | (simp only [World.size_alloc]; omega)) rfl rfl ?_; intro v4 w4 hr4 hb4; obtain ⟨p4, n4, rfl⟩ := hr4.own.rd.shape; have Hr4 := Lib.hid hr4; have Hb4 := Lib.hid hb4; have x4 := (hb4.cell (p := ⟨w.heap.size, 0, none⟩) (by simp only; omega)).trans HX3.out; have y4 := (hb4.frozen (p := ⟨w.heap.size, 0, none⟩) (by simp only; omega)).trans HY3.out; have l4 := World.block_lt_of_cell? _ _ x4; simp only at l4; clear hr4 hb4)
      (try simp only [Exit.inBlock, Exit.then]); refine bodyPost_ret (by simp [results, Try.results15, go_sem, *]; try rfl) rfl ?_
      have ho := Lib.hid (ov_snoc Hov.out (m := m) (z := 1 + z3) (by omega))
      have hj1 : (zs ++ [1 + z3]).length = j + 1 := by simp; omega
      have Hr5 : OwI w4 w1.heap.size (.slice p4 (j + 1) n4) (zs ++ [1 + z3]) := by have := Hr4.out.own; rw [hj1] at this; exact this
      exact ⟨_, zs ++ [1 + z3], rfl, OwI.mono (B := w1.heap.size) (OwI.setCell Hr5 (a := ⟨w.heap.size, 0, none⟩) (by simp only; omega) _) (by omega), ⟨ho.out, ⟨by simp, .inr (by show lastZ (zs ++ [1 + z3]) ≠ 0; rw [last_snoc]; omega)⟩, by simp; omega⟩, by simp; omega, by simp; omega, Below.setCell (B3.out.trans (Hb4.out.mono (by omega))) (Nat.le_refl _) _⟩

end Go.Proofs.Ytlnjkjogedbhfaa

/- MulOver and DivideOver, of both, at good arguments. Conditions: wholes over a prime, of at most 17 terms. -/
namespace Go.Proofs.Ytlnjkjogedbhfaa
open Go Go.RowKit
set_option linter.unusedSimpArgs false
set_option linter.unusedVariables false
set_option linter.unusedSimpArgs false
set_option linter.unusedVariables false

theorem ovr_vld {m : Int} {zs : List Int} (hm : primeB m = true) (h : Ovr m zs) (hl : zs.length ≤ 17) : Vld zs := ⟨h.trd, fun i => by have := h.ov i; have := primeB_bd hm; constructor <;> omega, hl⟩
theorem overB_mk {m : Int} {zs : List Int} (hm : primeB m = true) (h : Ovr m zs) (hl : zs.length ≤ 17) : overB m zs = true := by
  have h1 := validB_iff.2 (ovr_vld hm h hl)
  rw [overB, hm, overZ, h1]
  simp only [Bool.true_and, Bool.not_eq_true', List.any_eq_false]
  intro z hz
  obtain ⟨i, hi, rfl⟩ := List.getElem_of_mem hz
  have h2 := h.ov i
  simp only [List.getD, List.getElem?_eq_getElem hi, Option.getD_some] at h2
  simp [inB]
  omega

set_option maxRecDepth 100000 in
set_option maxHeartbeats 1600000 in
theorem MulOver_impl (va vb : Value) (a b : List Int) (m : Int) (w : World) (ha : RdI w va a) (hb : RdI w vb b) (hm : primeB m = true) (oa : Ovr m a) (ob : Ovr m b) (la : a.length ≤ 17) (lb : b.length ≤ 17) (lp : (mulF m a b).length ≤ 17) : Calls Try.prog 57 #[.agg #[va], .agg #[vb], .int .i64 m] w (RWB (mulF m a b, true) w) := by
  have Ha := Lib.hid ha
  have Hb := Lib.hid hb
  have Hm := Lib.hid hm
  have Oa := Lib.hid oa
  have Ob := Lib.hid ob
  have hm2 := primeB_bd hm
  have Hqa := Lib.hid (overB_mk hm oa la)
  have Hqb := Lib.hid (overB_mk hm ob lb)
  obtain ⟨aoa, ca, rfl⟩ := ha.shape
  obtain ⟨aob, cb, rfl⟩ := hb.shape
  have Hp := Lib.hid (giveF_valid (validB_iff.2 (ovr_vld hm (mulF_ovr (by omega) oa ob (by omega)) lp)))
  clear ha hb hm oa ob
  have Hl2 := Lib.hid (show ∀ i, ([a, b].getD i []).length ≤ 1099511627776 from fun i => by
    match i with
    | 0 => simp; omega
    | 1 => simp; omega
    | i + 2 => simp)
  have Hq := Lib.hid (show areOverB m [a, b] = true by rw [areOverB_two, Hqa.out, Hqb.out]; rfl)
  go_enter Try.func57, Try.ntmps57
  go_wp2_with fail
  with_reducible refine (areOver_impl _ [a, b] m _ ?lit (by simp) Hl2.out).mono ?_
  case lit => exact RdWs.lit2 (by simp) (Ha.out.below (by (repeat' (first | (with_reducible exact Below.refl _ _) | (with_reducible assumption) | (with_reducible refine Below.alloc ?_ ?_ _) | (with_reducible refine Below.setCell ?_ ?_ _) | (with_reducible refine Below.drew ?_) | (with_reducible refine Below.via (by assumption) ?_ ?_) | go_size)))) (Hb.out.below (by (repeat' (first | (with_reducible exact Below.refl _ _) | (with_reducible assumption) | (with_reducible refine Below.alloc ?_ ?_ _) | (with_reducible refine Below.setCell ?_ ?_ _) | (with_reducible refine Below.drew ?_) | (with_reducible refine Below.via (by assumption) ?_ ?_) | go_size))))
  rintro e w1 ⟨rfl, hb1⟩
  rw [Hq.out]
  obtain ⟨c1, f1⟩ := bcell hb1
  have z1 := hb1.size
  simp only [World.size_alloc] at z1
  have l0 : w.heap.size < w1.heap.size := by omega
  have l1 : w.heap.size + 1 < w1.heap.size := by omega
  have l2 : w.heap.size + 1 + 1 < w1.heap.size := by omega
  have l3 : w.heap.size + 1 + 1 + 1 < w1.heap.size := by omega
  have Bw1 := Lib.hid (show Below w.heap.size w w1 by (repeat' (first | (with_reducible exact Below.refl _ _) | (with_reducible assumption) | (with_reducible refine Below.alloc ?_ ?_ _) | (with_reducible refine Below.setCell ?_ ?_ _) | (with_reducible refine Below.drew ?_) | (with_reducible refine Below.via (by assumption) ?_ ?_) | go_size)))
  clear hb1
  go_wp2_with fail
  (go_at_call 82; ((with_reducible refine (mulOver_impl _ _ a b m _ (Ha.out.below (by have h := Bw1.out; (repeat' (first | (with_reducible exact Below.refl _ _) | (with_reducible assumption) | (with_reducible refine Below.alloc ?_ ?_ _) | (with_reducible refine Below.setCell ?_ ?_ _) | (with_reducible refine Below.drew ?_) | (with_reducible refine Below.via (by assumption) ?_ ?_) | go_size)))) (Hb.out.below (by have h := Bw1.out; (repeat' (first | (with_reducible exact Below.refl _ _) | (with_reducible assumption) | (with_reducible refine Below.alloc ?_ ?_ _) | (with_reducible refine Below.setCell ?_ ?_ _) | (with_reducible refine Below.drew ?_) | (with_reducible refine Below.via (by assumption) ?_ ?_) | go_size)))) Hm.out Oa.out Ob.out (by omega)).mono ?_); rintro e w2 ⟨v2, rfl, o2, b2⟩))
  obtain ⟨c2, f2⟩ := bcell b2
  have z2 := b2.size
  have n2 : w.heap.size + 1 + 1 < w2.heap.size := by omega
  have n3 : w.heap.size + 1 + 1 + 1 < w2.heap.size := by omega
  have O2 := Lib.hid o2
  obtain ⟨p2, q2, rfl⟩ := o2.rd.shape
  have Bw2 := Lib.hid (Bw1.out.trans (b2.mono (by omega)))
  clear o2 b2
  go_wp2_with fail
  (go_at_call 92; ((with_reducible refine (checked_impl _ (mulF m a b) _ w1.heap.size O2.out (by omega)).mono ?_); rintro e w3 ⟨v3, rfl, o3, b3⟩))
  rw [Hp.out] at o3
  rw [Hp.out]
  obtain ⟨c3, f3⟩ := bcell b3
  have z3 := b3.size
  have k2 : w.heap.size + 1 + 1 < w3.heap.size := by omega
  have k3 : w.heap.size + 1 + 1 + 1 < w3.heap.size := by omega
  have O3 := Lib.hid o3
  obtain ⟨p3, q3, rfl⟩ := o3.rd.shape
  have Bw3 := Lib.hid (Bw2.out.trans (b3.mono (by omega)))
  clear o3 b3
  go_wp2_with fail
  (try simp only [Exit.inBlock, Exit.then]); refine bodyPost_ret (by simp [results, Try.results57, go_sem, *]; try rfl) rfl ?_
  exact ⟨_, rfl, OwI.mono (B := w1.heap.size) (OwI.setCell O3.out (a := ⟨w.heap.size + 1 + 1, 0, none⟩) (by simp only; omega) _) (by omega), Below.setCell Bw3.out (by simp only; omega) _⟩

set_option maxRecDepth 100000 in
set_option maxHeartbeats 1600000 in
theorem MulOver_spec (va vb : Value) (a b : List Int) (m : Int) (w : World) (ha : RdI w va a) (hb : RdI w vb b) (hm : primeB m = true) (oa : Ovr m a) (ob : Ovr m b) (la : a.length ≤ 17) (lb : b.length ≤ 17) (lp : (mulF m a b).length ≤ 17) : Calls Try.prog 59 #[.agg #[va], .agg #[vb], .int .i64 m] w (RWB (mulF m a b, true) w) := by
  have Ha := Lib.hid ha
  have Hb := Lib.hid hb
  have Hm := Lib.hid hm
  have Oa := Lib.hid oa
  have Ob := Lib.hid ob
  have hm2 := primeB_bd hm
  have Hqa := Lib.hid (overB_mk hm oa la)
  have Hqb := Lib.hid (overB_mk hm ob lb)
  obtain ⟨aoa, ca, rfl⟩ := ha.shape
  obtain ⟨aob, cb, rfl⟩ := hb.shape
  have hop := mulF_ovr (m := m) (by omega) oa ob (by omega)
  have Hp := Lib.hid (giveF_valid (validB_iff.2 (ovr_vld hm hop lp)))
  have Ht := Lib.hid hop.trd.trimS
  clear ha hb hm oa ob hop
  go_enter Try.func59, Try.ntmps59
  go_wp2_with fail
  (go_at_call 68; ((with_reducible refine (over_spec _ _ a m _ (by go_simp) (Ha.out.below (by (repeat' (first | (with_reducible exact Below.refl _ _) | (with_reducible assumption) | (with_reducible refine Below.alloc ?_ ?_ _) | (with_reducible refine Below.setCell ?_ ?_ _) | (with_reducible refine Below.drew ?_) | (with_reducible refine Below.via (by assumption) ?_ ?_) | go_size)))) (by omega)).mono ?_); rintro e w' ⟨rfl, rfl⟩))
  rw [Hqa.out]
  go_wp2_with fail
  (go_at_call 68; ((with_reducible refine (over_spec _ _ b m _ (by go_simp) (Hb.out.below (by (repeat' (first | (with_reducible exact Below.refl _ _) | (with_reducible assumption) | (with_reducible refine Below.alloc ?_ ?_ _) | (with_reducible refine Below.setCell ?_ ?_ _) | (with_reducible refine Below.drew ?_) | (with_reducible refine Below.via (by assumption) ?_ ?_) | go_size)))) (by omega)).mono ?_); rintro e w' ⟨rfl, rfl⟩))
  rw [Hqb.out]
  go_wp2_with fail
  (go_at_call 67; ((with_reducible refine (mul_spec2 _ _ a b m _ (Ha.out.below (by (repeat' (first | (with_reducible exact Below.refl _ _) | (with_reducible assumption) | (with_reducible refine Below.alloc ?_ ?_ _) | (with_reducible refine Below.setCell ?_ ?_ _) | (with_reducible refine Below.drew ?_) | (with_reducible refine Below.via (by assumption) ?_ ?_) | go_size)))) (Hb.out.below (by (repeat' (first | (with_reducible exact Below.refl _ _) | (with_reducible assumption) | (with_reducible refine Below.alloc ?_ ?_ _) | (with_reducible refine Below.setCell ?_ ?_ _) | (with_reducible refine Below.drew ?_) | (with_reducible refine Below.via (by assumption) ?_ ?_) | go_size)))) Hm.out Oa.out Ob.out).mono ?_); rintro e w1 ⟨v1, rfl, o1, b1⟩))
  obtain ⟨c1, f1⟩ := bcell b1
  have z1 := b1.size
  simp only [World.size_alloc] at z1
  have l2 : w.heap.size + 1 + 1 < w1.heap.size := by omega
  have Bw1 := Lib.hid (show Below w.heap.size w w1 by (repeat' (first | (with_reducible exact Below.refl _ _) | (with_reducible assumption) | (with_reducible refine Below.alloc ?_ ?_ _) | (with_reducible refine Below.setCell ?_ ?_ _) | (with_reducible refine Below.drew ?_) | (with_reducible refine Below.via (by assumption) ?_ ?_) | go_size)))
  have O1 := Lib.hid o1
  obtain ⟨p1, q1, rfl⟩ := o1.shape
  clear o1 b1
  go_wp2_with fail
  (go_at_call 71; ((with_reducible refine (mods_mul_spec _ a b m _ O1.out Hm.out Oa.out Ob.out (by omega)).mono ?_); rintro e w2 ⟨v2, rfl, o2, b2⟩))
  obtain ⟨c2, f2⟩ := bcell b2
  have z2 := b2.size
  have n2 : w.heap.size + 1 + 1 < w2.heap.size := by omega
  have O2 := Lib.hid o2
  obtain ⟨p2, q2, rfl⟩ := o2.rd.shape
  have Bw2 := Lib.hid (Bw1.out.trans (b2.mono (by omega)))
  clear o2 b2
  go_wp2_with fail
  (go_at_call 66; ((with_reducible refine (give_spec _ (mulF m a b) _ O2.out.rd (by omega)).mono ?_); rintro e w3 ⟨v3, rfl, o3, b3⟩))
  rw [Ht.out, Hp.out] at o3
  rw [Ht.out, Hp.out]
  obtain ⟨c3, f3⟩ := bcell b3
  have z3 := b3.size
  have k2 : w.heap.size + 1 + 1 < w3.heap.size := by omega
  have O3 := Lib.hid o3
  obtain ⟨p3, q3, rfl⟩ := o3.rd.shape
  have Bw3 := Lib.hid (Bw2.out.trans (b3.mono (by omega)))
  clear o3 b3
  go_wp2_with fail
  (try simp only [Exit.inBlock, Exit.then]); refine bodyPost_ret (by simp [results, Try.results59, go_sem, *]; try rfl) rfl ?_
  exact ⟨_, rfl, OwI.mono (B := w2.heap.size) (OwI.setCell O3.out (a := ⟨w.heap.size + 1 + 1, 0, none⟩) (by simp only; omega) _) (by omega), Below.setCell Bw3.out (by simp only; omega) _⟩

end Go.Proofs.Ytlnjkjogedbhfaa

/- CountPrimes of the program, of degree 2. Conditions: one of four primes. -/
namespace Go.Proofs.Ytlnjkjogedbhfaa
open Go Go.RowKit
set_option linter.unusedSimpArgs false
set_option linter.unusedVariables false
set_option linter.unusedSimpArgs false
set_option linter.unusedVariables false

def RCount (z : Int) (w : World) (e : Ending) (w' : World) : Prop := e = .returned (.tuple #[.int .i64 z, .bool true]) ∧ Below w.heap.size w w'
set_option maxRecDepth 100000 in
set_option maxHeartbeats 4000000 in
theorem CountPrimes_impl (m : Int) (w : World) (hm : m = 2 ∨ m = 3 ∨ m = 5 ∨ m = 7) : Calls Try.prog 62 #[.int .i64 2, .int .i64 m] w (RCount ((m * (m - 1)).tdiv 2) w) := by
  rcases hm with rfl | rfl | rfl | rfl
  all_goals
    go_enter Try.func62, Try.ntmps62
    go_wp2_with fail
    (go_at_call 95; ((with_reducible refine (within_impl _ _ _ _).mono ?_); rintro e w' ⟨rfl, rfl⟩))
    go_wp2_with fail
    (go_at_call 121; ((with_reducible refine (isPrime_impl _ _).mono ?_); rintro e w1 ⟨rfl, hb1⟩))
    have Bw1 := Lib.hid hb1
    have z1 := hb1.size
    clear hb1
    go_wp2_with fail
    refine wp_loop_rounds 3 ?_
    rw [rounds_succ]
    go_wp2_with fail
    refine wp_loop_rounds 3 ?_
    rw [rounds_succ]
    go_wp2_with fail
    rw [rounds_succ]
    go_wp2_with fail
    rw [rounds_succ]
    go_wp2_with fail
    rw [rounds_succ]
    go_wp2_with fail
    refine wp_loop_rounds 2 ?_
    rw [rounds_succ]
    go_wp2_with fail
    rw [rounds_succ]
    go_wp2_with fail
    rw [rounds_succ]
    go_wp2_with fail
    go_ret2
    exact ⟨rfl, by have h := Bw1.out; (repeat' (first | (with_reducible exact Below.refl _ _) | (with_reducible assumption) | (with_reducible refine Below.alloc ?_ ?_ _) | (with_reducible refine Below.setCell ?_ ?_ _) | (with_reducible refine Below.drew ?_) | (with_reducible refine Below.via (by assumption) ?_ ?_) | go_size))⟩

end Go.Proofs.Ytlnjkjogedbhfaa

/- Plain facts of FnOver. Conditions: none. -/
namespace Go.Proofs.Ytlnjkjogedbhfaa
open Go Go.RowKit
set_option linter.unusedSimpArgs false
set_option linter.unusedVariables false
set_option linter.unusedSimpArgs false
set_option linter.unusedVariables false

def sumD : List (List Int) → Nat
  | [] => 0
  | x :: L => (x.length - 1) + sumD L
theorem sumD_append (L K : List (List Int)) : sumD (L ++ K) = sumD L + sumD K := by
  induction L with
  | nil => simp [sumD]
  | cons x L ih => simp only [List.cons_append, sumD, ih]; omega
theorem fs_sum {M : Nat} (hm : primeB (M : Int) = true) {d n : Nat} {p : List Int} {L : List (List Int)} (h : Fs M d n p L) : Mon M p → p.length ≤ 8 → d ≤ 4 → sumD L ≤ p.length - 1 := by
  induction h with
  | @stop d n p h1 =>
    intro hp h8 h4
    by_cases h2 : 1 < p.length
    · rw [if_pos h2]; simp [sumD]
    · rw [if_neg h2]; simp [sumD]
  | @up d n p L h1 h2 h3 ih =>
    intro hp h8 h4
    exact ih hp h8 (by omega)
  | @hit d n p L h1 h2 h3 h4 ih =>
    intro hp h8 hd
    have hc := cand_mon (n := n) hm (show d ≤ 99 by omega)
    have hq := quo_mon hm hp hc h3
    have l1 := hq.1.ov.trd.1
    have l2 := hc.ov.trd.1
    have := ih hq.1 (by omega) hd
    simp only [sumD]
    omega
  | @miss d n p L h1 h2 h3 h4 ih =>
    intro hp h8 hd
    exact ih hp h8 hd
theorem prodL_snoc (m : Int) (x : List Int) : ∀ (L : List (List Int)) (acc : List Int), prodL m acc (L ++ [x]) = mulF m (prodL m acc L) x
  | [], acc => rfl
  | y :: L, acc => by rw [List.cons_append, prodL, prodL_snoc m x L]; rfl
/-- The product so far. -/
def PL (M : Nat) (a : List Int) (L : List (List Int)) (k : Nat) : List Int := prodL M [lastZ a] (L.take k)
theorem PL_zero (M : Nat) (a : List Int) (L : List (List Int)) : PL M a L 0 = [lastZ a] := rfl
theorem take_snocL {L : List (List Int)} {k : Nat} (h : k < L.length) : L.take (k + 1) = L.take k ++ [L.getD k []] := by
  rw [List.take_succ_eq_append_getElem h]
  simp [List.getD, h]
theorem PL_succ {M : Nat} {a : List Int} {L : List (List Int)} {k : Nat} (h : k < L.length) : PL M a L (k + 1) = mulF M (PL M a L k) (L.getD k []) := by
  rw [PL, take_snocL h, prodL_snoc]; rfl
/-- What holds of a whole and its factors. -/
structure Facs (M : Nat) (a : List Int) (L : List (List Int)) : Prop where
  hm : primeB (M : Int) = true
  oa : Ovr M a
  nz : zeroB a = false
  l6 : a.length ≤ 6
  el : ∀ i, i < L.length → Ovr M (L.getD i []) ∧ 2 ≤ (L.getD i []).length ∧ (L.getD i []).length ≤ 6
  len : 1 ≤ L.length ∧ L.length ≤ 5
  sum : sumD L ≤ a.length - 1
  all : PL M a L L.length = a
theorem sumD_take (L : List (List Int)) (k : Nat) : sumD (L.take k) ≤ sumD L := by
  have := sumD_append (L.take k) (L.drop k)
  rw [List.take_append_drop] at this
  omega
theorem Facs.pl {M : Nat} {a : List Int} {L : List (List Int)} (h : Facs M a L) : ∀ k, k ≤ L.length → Ovr M (PL M a L k) ∧ (PL M a L k).length ≤ 1 + sumD (L.take k)
  | 0, _ => by
    have hb := last_bd h.oa h.nz
    exact ⟨⟨fun i => by rw [PL_zero]; cases i <;> simp <;> omega, ⟨by simp [PL_zero], .inl (by simp [PL_zero])⟩, by simp [PL_zero]⟩, by simp [PL_zero, sumD]⟩
  | k + 1, hk => by
    have hm := primeB_bd h.hm
    obtain ⟨h1, h2⟩ := h.pl k (by omega)
    obtain ⟨e1, e2, e3⟩ := h.el k (by omega)
    have hs := sumD_take L (k + 1)
    have hl := h.sum
    have h6 := h.l6
    rw [PL_succ (by omega)]
    have h3 := mulF_len M (PL M a L k) (L.getD k [])
    have h4 : sumD (L.take (k + 1)) = sumD (L.take k) + ((L.getD k []).length - 1) := by
      rw [take_snocL (by omega), sumD_append]; simp [sumD]
    exact ⟨mulF_ovr (by omega) h1 e1 (by omega), by omega⟩
theorem Facs.pl6 {M : Nat} {a : List Int} {L : List (List Int)} (h : Facs M a L) {k : Nat} (hk : k ≤ L.length) : (PL M a L k).length ≤ 6 := by
  have h1 := (h.pl k hk).2
  have h2 := sumD_take L k
  have h3 := h.sum
  have h4 := h.l6
  have h5 := h.oa.trd.1
  omega
theorem facs_of {M : Nat} {a : List Int} (hm : primeB (M : Int) = true) (oa : Ovr M a) (h2 : 2 ≤ a.length) (h6 : a.length ≤ 6) : facOk M a = true ∧ Facs M a (facL M a) ∧ Fs M 1 0 (monicS M a) (facL M a) := by
  have hok : facOk (M : Int) a = true := by
    unfold facOk
    rw [overB_mk hm oa (by omega), decide_eq_true h2, decide_eq_true (show a.length ≤ 7 by omega)]; rfl
  have h := facL_all hok
  rw [Int.toNat_natCast] at h
  refine ⟨hok, ⟨hm, oa, h.nz, h6, fun i hi => ?_, ⟨List.length_pos_iff.2 h.ne, ?_⟩, ?_, ?_⟩, h.fs⟩
  · have h1 := h.fl.mon _ (List.getElem_mem hi)
    have e : (facL (M : Int) a).getD i [] = (facL (M : Int) a)[i] := by simp [List.getD, hi]
    rw [e]
    exact ⟨h1.1.ov, h1.2.1, by omega⟩
  · have := h.fl.few; omega
  · have h1 := fs_sum hm h.fs h.mon (by rw [monicS_length]; omega) (by omega)
    rw [monicS_length] at h1
    exact h1
  · rw [PL, List.take_length]
    exact prod_all hm oa h.nz (by omega) h.fs
/-- Quotient and rest make the whole again, term by term. -/
theorem back_term {m : Int} {a b : List Int} (hm : primeB m = true) (oa : Ovr m a) (ob : Ovr m b) (hz : zeroB b = false) (i : Nat) : ((mulF m (divF a b m).1 b).getD i 0 + (divF a b m).2.getD i 0) % m = a.getD i 0 := by
  have hm2 := primeB_bd hm
  have h1 := div_id hm oa ob hz i
  have h2 := mulF_eqm m (divF a b m).1 b i
  have h3 := oa.ov i
  have e : ((mulF m (divF a b m).1 b).getD i 0 + (divF a b m).2.getD i 0) % m = (co a i) % m := by
    rw [← h1]
    show (co (mulF m (divF a b m).1 b) i + co (divF a b m).2 i) % m = _
    rw [Int.add_emod, h2, ← Int.add_emod]
  rw [e]
  exact Int.emod_eq_of_lt h3.1 h3.2
theorem rest_short {m : Int} {a b : List Int} (hm : primeB m = true) (oa : Ovr m a) (ob : Ovr m b) (h2 : 2 ≤ b.length) : (divF a b m).2.length < b.length := by
  rcases (divF_ovr hm oa ob (long_zero h2)).2.2.1 with h | h <;> omega
/-- The common one: it can be divided by, and it divides. -/
theorem common_good {m : Int} {a b : List Int} (hm : primeB m = true) (oa : Ovr m a) (ob : Ovr m b) (la : 2 ≤ a.length) (la2 : a.length ≤ 17) (lb2 : b.length ≤ 17) :
    commonR m a b = (monicS m (gcdZ m a b), true) ∧ Ovr m (monicS m (gcdZ m a b)) ∧ (monicS m (gcdZ m a b)).length ≤ 17 ∧ zeroB (monicS m (gcdZ m a b)) = false ∧ (divF a (monicS m (gcdZ m a b)) m).2 = [0] := by
  have hmp := primeB_bd hm
  have qa := overB_mk hm oa la2
  have qb := overB_mk hm ob lb2
  have hg := gcdZ_ovr hm (Nat.lt_succ_self _) oa ob
  have hz := gcdZ_nz hm (Nat.lt_succ_self _) oa ob (long_zero la)
  have hl := gcdZ_len hm (N := 17) (by omega) (Nat.lt_succ_self _) oa ob la2 lb2
  have ht := monicS_trd hm hg.ov hg.trd
  have hmo : Ovr m (monicS m (gcdZ m a b)) := ⟨monicS_ov hm hg.ov, ht, by rw [monicS_length]; omega⟩
  refine ⟨by rw [commonR, qa, qb]; rfl, hmo, by rw [monicS_length]; exact hl, ?_, common_divides hm oa ob hz⟩
  have h1 := scale_last hm hg.ov hg.trd hz
  have hs : monicS m (gcdZ m a b) = scaleZ (invZ (lastZ (gcdZ m a b)) m) m (gcdZ m a b) := by unfold monicS; rw [hz]; rfl
  rw [← hs] at h1
  cases hq : zeroB (monicS m (gcdZ m a b))
  · rfl
  · exfalso
    have e : monicS m (gcdZ m a b) = [0] := by
      revert hq
      generalize monicS m (gcdZ m a b) = z
      intro hq
      match z, hq with
      | [x], hq => simp [zeroB] at hq; rw [hq]
      | [], hq => simp [zeroB] at hq
      | _ :: _ :: _, hq => simp [zeroB] at hq
    have hl1 : (gcdZ m a b).length = 1 := by have := congrArg List.length e; rw [monicS_length] at this; simpa using this
    rw [e, hl1] at h1
    simp at h1
/-- Powers of x. -/
theorem xx_ovr {m : Int} (hm : 2 ≤ m) : Ovr m [0, 1] := ⟨fun i => by rcases i with _ | _ | i <;> simp <;> omega, ⟨by simp, .inr (by simp)⟩, by simp⟩
theorem pow_good {m : Int} {a : List Int} (hm : primeB m = true) (oa : Ovr m a) (la : 2 ≤ a.length) (la2 : a.length ≤ 17) {i : Int} (h0 : 0 ≤ i) (h1 : i ≤ 1000) :
    powR [0, 1] i a m = (powZ m a i.toNat [1] (remF m a [0, 1]), true) ∧ Ov17 m (powZ m a i.toNat [1] (remF m a [0, 1])) := by
  have hmp := primeB_bd hm
  have hx := xx_ovr hmp.1
  have hz := long_zero la
  refine ⟨?_, powZ17 hm ⟨oa, la2⟩ hz _ _ _ _ (Nat.le_refl _) (one17 hm) (rem17 hm hx ⟨oa, la2⟩ hz)⟩
  rw [powR, if_pos]
  unfold powOk
  rw [overB_mk hm hx (by simp), overB_mk hm oa la2, decide_eq_true la]
  simp [inB]; omega
end Go.Proofs.Ytlnjkjogedbhfaa

/- DivideOver, of both, at good arguments. Conditions: wholes over a prime, of at most 17 terms. -/
namespace Go.Proofs.Ytlnjkjogedbhfaa
open Go Go.RowKit
set_option linter.unusedSimpArgs false
set_option linter.unusedVariables false
set_option linter.unusedSimpArgs false
set_option linter.unusedVariables false

/-- Two new wholes, and that they are there. -/
def RD2 (F : List Int × List Int) (w : World) (e : Ending) (w' : World) : Prop := ∃ v u, e = .returned (.tuple #[.agg #[v], .agg #[u], .bool true]) ∧ OwI w' w.heap.size v F.1 ∧ OwI w' w.heap.size u F.2 ∧ Below w.heap.size w w'

set_option maxRecDepth 100000 in
set_option maxHeartbeats 1600000 in
theorem DivideOver_spec (va vb : Value) (a b : List Int) (m : Int) (w : World) (ha : RdI w va a) (hb : RdI w vb b) (hm : primeB m = true) (oa : Ovr m a) (ob : Ovr m b) (la : a.length ≤ 17) (lb : b.length ≤ 17) (hz : zeroB b = false) : Calls Try.prog 61 #[.agg #[va], .agg #[vb], .int .i64 m] w (RD2 (divF a b m) w) := by
  have Ha := Lib.hid ha
  have Hb := Lib.hid hb
  have Hm := Lib.hid hm
  have Oa := Lib.hid oa
  have Ob := Lib.hid ob
  have hm2 := primeB_bd hm
  have Hqa := Lib.hid (overB_mk hm oa la)
  have Hqb := Lib.hid (overB_mk hm ob lb)
  obtain ⟨aoa, ca, rfl⟩ := ha.shape
  obtain ⟨aob, cb, rfl⟩ := hb.shape
  have Hz := Lib.hid hz
  clear ha hb hm oa ob
  go_enter Try.func61, Try.ntmps61
  go_wp2_with fail
  (go_at_call 68; ((with_reducible refine (over_spec _ _ a m _ (by go_simp) (Ha.out.below (by (repeat' (first | (with_reducible exact Below.refl _ _) | (with_reducible assumption) | (with_reducible refine Below.alloc ?_ ?_ _) | (with_reducible refine Below.setCell ?_ ?_ _) | (with_reducible refine Below.drew ?_) | (with_reducible refine Below.via (by assumption) ?_ ?_) | go_size)))) (by omega)).mono ?_); rintro e w' ⟨rfl, rfl⟩))
  rw [Hqa.out]
  go_wp2_with fail
  (go_at_call 68; ((with_reducible refine (over_spec _ _ b m _ (by go_simp) (Hb.out.below (by (repeat' (first | (with_reducible exact Below.refl _ _) | (with_reducible assumption) | (with_reducible refine Below.alloc ?_ ?_ _) | (with_reducible refine Below.setCell ?_ ?_ _) | (with_reducible refine Below.drew ?_) | (with_reducible refine Below.via (by assumption) ?_ ?_) | go_size)))) (by omega)).mono ?_); rintro e w' ⟨rfl, rfl⟩))
  rw [Hqb.out]
  go_wp2_with fail
  (go_at_call 123; ((with_reducible refine (zero_spec _ b _ (Hb.out.below (by (repeat' (first | (with_reducible exact Below.refl _ _) | (with_reducible assumption) | (with_reducible refine Below.alloc ?_ ?_ _) | (with_reducible refine Below.setCell ?_ ?_ _) | (with_reducible refine Below.drew ?_) | (with_reducible refine Below.via (by assumption) ?_ ?_) | go_size)))) (by omega)).mono ?_); rintro e w' ⟨rfl, rfl⟩))
  rw [Hz.out]
  go_wp2_with fail
  (go_at_call 76; ((with_reducible refine (divide_spec2 _ _ a b m _ (Ha.out.below (by (repeat' (first | (with_reducible exact Below.refl _ _) | (with_reducible assumption) | (with_reducible refine Below.alloc ?_ ?_ _) | (with_reducible refine Below.setCell ?_ ?_ _) | (with_reducible refine Below.drew ?_) | (with_reducible refine Below.via (by assumption) ?_ ?_) | go_size)))) (Hb.out.below (by (repeat' (first | (with_reducible exact Below.refl _ _) | (with_reducible assumption) | (with_reducible refine Below.alloc ?_ ?_ _) | (with_reducible refine Below.setCell ?_ ?_ _) | (with_reducible refine Below.drew ?_) | (with_reducible refine Below.via (by assumption) ?_ ?_) | go_size)))) Hm.out Oa.out Ob.out Hz.out).mono ?_); rintro e w3 ⟨v3, u3, rfl, o3, n3, b3⟩))
  obtain ⟨c3, f3⟩ := bcell b3
  have z3 := b3.size
  simp only [World.size_alloc] at z3
  have k2 : w.heap.size + 1 + 1 < w3.heap.size := by omega
  have k3 : w.heap.size + 1 + 1 + 1 < w3.heap.size := by omega
  have ne : ¬ (w.heap.size + 1 + 1 = w.heap.size + 1 + 1 + 1) := by omega
  have O3 := Lib.hid o3
  have N3 := Lib.hid n3
  obtain ⟨p3, q3, rfl⟩ := o3.rd.shape
  obtain ⟨s3, t3, rfl⟩ := n3.rd.shape
  have Bw3 := Lib.hid (show Below w.heap.size w w3 by (repeat' (first | (with_reducible exact Below.refl _ _) | (with_reducible assumption) | (with_reducible refine Below.alloc ?_ ?_ _) | (with_reducible refine Below.setCell ?_ ?_ _) | (with_reducible refine Below.drew ?_) | (with_reducible refine Below.via (by assumption) ?_ ?_) | go_size)))
  clear o3 n3 b3
  go_wp2_with fail
  (try simp only [Exit.inBlock, Exit.then]); refine bodyPost_ret (by simp [results, Try.results61, go_sem, *]; try rfl) rfl ?_
  exact ⟨_, _, rfl, OwI.mono (B := w.heap.size + 1 + 1 + 1 + 1) (OwI.setCell (OwI.setCell (by simpa using O3.out) (a := ⟨w.heap.size + 1 + 1, 0, none⟩) (by simp only; omega) _) (a := ⟨w.heap.size + 1 + 1 + 1, 0, none⟩) (by simp only; omega) _) (by omega), OwI.mono (B := w.heap.size + 1 + 1 + 1 + 1) (OwI.setCell (OwI.setCell (by simpa using N3.out) (a := ⟨w.heap.size + 1 + 1, 0, none⟩) (by simp only; omega) _) (a := ⟨w.heap.size + 1 + 1 + 1, 0, none⟩) (by simp only; omega) _) (by omega), Below.setCell (Below.setCell Bw3.out (by simp only; omega) _) (by simp only; omega) _⟩

set_option maxRecDepth 100000 in
set_option maxHeartbeats 1600000 in
theorem DivideOver_impl (va vb : Value) (a b : List Int) (m : Int) (w : World) (ha : RdI w va a) (hb : RdI w vb b) (hm : primeB m = true) (oa : Ovr m a) (ob : Ovr m b) (la : a.length ≤ 17) (lb : b.length ≤ 17) (hz : zeroB b = false) : Calls Try.prog 56 #[.agg #[va], .agg #[vb], .int .i64 m] w (RD2 (divF a b m) w) := by
  have Ha := Lib.hid ha
  have Hb := Lib.hid hb
  have Hm := Lib.hid hm
  have Oa := Lib.hid oa
  have Ob := Lib.hid ob
  have hm2 := primeB_bd hm
  have Hqa := Lib.hid (overB_mk hm oa la)
  have Hqb := Lib.hid (overB_mk hm ob lb)
  obtain ⟨aoa, ca, rfl⟩ := ha.shape
  obtain ⟨aob, cb, rfl⟩ := hb.shape
  have Hz := Lib.hid hz
  clear ha hb hm oa ob
  have Hl2 := Lib.hid (show ∀ i, ([a, b].getD i []).length ≤ 1099511627776 from fun i => by
    match i with
    | 0 => simp; omega
    | 1 => simp; omega
    | i + 2 => simp)
  have Hq := Lib.hid (show areOverB m [a, b] = true by rw [areOverB_two, Hqa.out, Hqb.out]; rfl)
  go_enter Try.func56, Try.ntmps56
  go_wp2_with fail
  with_reducible refine (areOver_impl _ [a, b] m _ ?lit (by simp) Hl2.out).mono ?_
  case lit => exact RdWs.lit2 (by simp) (Ha.out.below (by (repeat' (first | (with_reducible exact Below.refl _ _) | (with_reducible assumption) | (with_reducible refine Below.alloc ?_ ?_ _) | (with_reducible refine Below.setCell ?_ ?_ _) | (with_reducible refine Below.drew ?_) | (with_reducible refine Below.via (by assumption) ?_ ?_) | go_size)))) (Hb.out.below (by (repeat' (first | (with_reducible exact Below.refl _ _) | (with_reducible assumption) | (with_reducible refine Below.alloc ?_ ?_ _) | (with_reducible refine Below.setCell ?_ ?_ _) | (with_reducible refine Below.drew ?_) | (with_reducible refine Below.via (by assumption) ?_ ?_) | go_size))))
  rintro e w1 ⟨rfl, hb1⟩
  rw [Hq.out]
  obtain ⟨c1, f1⟩ := bcell hb1
  have z1 := hb1.size
  simp only [World.size_alloc] at z1
  have l0 : w.heap.size < w1.heap.size := by omega
  have l1 : w.heap.size + 1 < w1.heap.size := by omega
  have l2 : w.heap.size + 1 + 1 < w1.heap.size := by omega
  have l3 : w.heap.size + 1 + 1 + 1 < w1.heap.size := by omega
  have Bw1 := Lib.hid (show Below w.heap.size w w1 by (repeat' (first | (with_reducible exact Below.refl _ _) | (with_reducible assumption) | (with_reducible refine Below.alloc ?_ ?_ _) | (with_reducible refine Below.setCell ?_ ?_ _) | (with_reducible refine Below.drew ?_) | (with_reducible refine Below.via (by assumption) ?_ ?_) | go_size)))
  clear hb1
  go_wp2_with fail
  (go_at_call 93; ((with_reducible refine (noWhole_impl _ b _ (Hb.out.below (by have h := Bw1.out; (repeat' (first | (with_reducible exact Below.refl _ _) | (with_reducible assumption) | (with_reducible refine Below.alloc ?_ ?_ _) | (with_reducible refine Below.setCell ?_ ?_ _) | (with_reducible refine Below.drew ?_) | (with_reducible refine Below.via (by assumption) ?_ ?_) | go_size)))) (by omega)).mono ?_); rintro e w2 ⟨rfl, b2⟩))
  rw [Hz.out]
  obtain ⟨c2, f2⟩ := bcell b2
  have z2 := b2.size
  have m0 : w.heap.size < w2.heap.size := by omega
  have m1 : w.heap.size + 1 < w2.heap.size := by omega
  have m2 : w.heap.size + 1 + 1 < w2.heap.size := by omega
  have m3 : w.heap.size + 1 + 1 + 1 < w2.heap.size := by omega
  have Bw2 := Lib.hid (Bw1.out.trans (b2.mono (by omega)))
  clear b2
  go_wp2_with fail
  (go_at_call 88; ((with_reducible refine (divide_impl2 _ _ a b m _ (Ha.out.below (by have h := Bw2.out; (repeat' (first | (with_reducible exact Below.refl _ _) | (with_reducible assumption) | (with_reducible refine Below.alloc ?_ ?_ _) | (with_reducible refine Below.setCell ?_ ?_ _) | (with_reducible refine Below.drew ?_) | (with_reducible refine Below.via (by assumption) ?_ ?_) | go_size)))) (Hb.out.below (by have h := Bw2.out; (repeat' (first | (with_reducible exact Below.refl _ _) | (with_reducible assumption) | (with_reducible refine Below.alloc ?_ ?_ _) | (with_reducible refine Below.setCell ?_ ?_ _) | (with_reducible refine Below.drew ?_) | (with_reducible refine Below.via (by assumption) ?_ ?_) | go_size)))) Hm.out Oa.out Ob.out).mono ?_); rintro e w3 ⟨v3, u3, rfl, o3, n3, b3⟩))
  obtain ⟨c3, f3⟩ := bcell b3
  have z3 := b3.size
  have k0 : w.heap.size < w3.heap.size := by omega
  have k2 : w.heap.size + 1 + 1 < w3.heap.size := by omega
  have k3 : w.heap.size + 1 + 1 + 1 < w3.heap.size := by omega
  have O3 := Lib.hid o3
  have N3 := Lib.hid n3
  obtain ⟨p3, q3, rfl⟩ := o3.rd.shape
  obtain ⟨s3, t3, rfl⟩ := n3.rd.shape
  have Bw3 := Lib.hid (Bw2.out.trans (b3.mono (by omega)))
  have x2 : w3.cell? ⟨w.heap.size + 1 + 1, 0, none⟩ = some (.slice none 0 0) := by go_simp
  have y2 : w3.frozen? ⟨w.heap.size + 1 + 1, 0, none⟩ = false := by go_simp
  have x3 : w3.cell? ⟨w.heap.size + 1 + 1 + 1, 0, none⟩ = some (.slice none 0 0) := by go_simp
  have y3 : w3.frozen? ⟨w.heap.size + 1 + 1 + 1, 0, none⟩ = false := by go_simp
  clear o3 n3 b3 c1 f1 c2 f2 c3 f3
  go_upto_region 4 with fail
  generalize hw4 : World.alloc _ _ = w4
  have Hw4 := Lib.hid hw4
  clear hw4
  have b34 : Below w3.heap.size w3 w4 := by rw [← Hw4.out]; (repeat' (first | (with_reducible exact Below.refl _ _) | (with_reducible assumption) | (with_reducible refine Below.alloc ?_ ?_ _) | (with_reducible refine Below.setCell ?_ ?_ _) | (with_reducible refine Below.drew ?_) | (with_reducible refine Below.via (by assumption) ?_ ?_) | go_size))
  have xa : w4.cell? ⟨w3.heap.size, 0, none⟩ = some (.slice p3 (divF a b m).1.length q3) := by rw [← Hw4.out]; go_simp
  have xb : w4.cell? ⟨w3.heap.size + 1, 0, none⟩ = some (.slice s3 (divF a b m).2.length t3) := by rw [← Hw4.out]; go_simp
  have x8 := (b34.cell (p := ⟨w.heap.size + 1 + 1, 0, none⟩) k2).trans x2
  have y8 := (b34.frozen (p := ⟨w.heap.size + 1 + 1, 0, none⟩) k2).trans y2
  have x9 := (b34.cell (p := ⟨w.heap.size + 1 + 1 + 1, 0, none⟩) k3).trans x3
  have y9 := (b34.frozen (p := ⟨w.heap.size + 1 + 1 + 1, 0, none⟩) k3).trans y3
  have O4 := Lib.hid (O3.out.below b34)
  have N4 := Lib.hid (N3.out.below b34)
  have Bw4 := Lib.hid (Bw3.out.trans (b34.mono (by omega)))
  have n89 : ¬ (w.heap.size + 1 + 1 = w.heap.size + 1 + 1 + 1) := by omega
  have n98 : ¬ (w.heap.size + 1 + 1 + 1 = w.heap.size + 1 + 1) := by omega
  have ng8 : ¬ (w3.heap.size = w.heap.size + 1 + 1) := by omega
  have ng9 : ¬ (w3.heap.size = w.heap.size + 1 + 1 + 1) := by omega
  have nh8 : ¬ (w3.heap.size + 1 = w.heap.size + 1 + 1) := by omega
  have nh9 : ¬ (w3.heap.size + 1 = w.heap.size + 1 + 1 + 1) := by omega
  clear x2 y2 x3 y3 b34 Hw4
  go_region_held3 (fun w' => w'.cell? ⟨w3.heap.size, 0, none⟩ = some (.slice p3 (divF a b m).1.length q3) ∧ w'.cell? ⟨w3.heap.size + 1, 0, none⟩ = some (.slice s3 (divF a b m).2.length t3))
    (((try dsimp only); (repeat' (refine And.intro ?_ ?_)); all_goals (first | assumption | (refine (Below.cell (B := w4.heap.size) (w := w4) ?_ ?_).trans ?_ <;> (first | assumption | omega | (simp only; omega) | (skip; (repeat' (first | (with_reducible exact Below.refl _ _) | (with_reducible assumption) | (with_reducible refine Below.alloc ?_ ?_ _) | (with_reducible refine Below.setCell ?_ ?_ _) | (with_reducible refine Below.drew ?_) | (with_reducible refine Below.via (by assumption) ?_ ?_) | go_size)); done))) | (rw [World.cell?_drew, cellZ (by omega), cellZ (by omega)]; assumption) | (rw [cellZ (by omega), cellZ (by omega)]; assumption) | (rw [World.cell?_drew, cellZ (by omega)]; assumption) | (rw [cellZ (by omega)]; assumption) | (rw [World.cell?_drew]; assumption) | (go_keep; done))))
    (fail)
  have F1 := Lib.hid (show OwI ((w4.setCell ⟨w.heap.size + 1 + 1, 0, none⟩ (.slice p3 (divF a b m).1.length q3)).setCell ⟨w.heap.size + 1 + 1 + 1, 0, none⟩ (.slice s3 (divF a b m).2.length t3)).drew w.heap.size (.slice p3 (divF a b m).1.length q3) (divF a b m).1 from
    ((OwI.mono (B := w2.heap.size) (OwI.setCell (OwI.setCell O4.out (a := ⟨w.heap.size + 1 + 1, 0, none⟩) (by simp only; omega) _) (a := ⟨w.heap.size + 1 + 1 + 1, 0, none⟩) (by simp only; omega) _) (by omega)).below ((Below.refl _ _).drew)))
  have F2 := Lib.hid (show OwI ((w4.setCell ⟨w.heap.size + 1 + 1, 0, none⟩ (.slice p3 (divF a b m).1.length q3)).setCell ⟨w.heap.size + 1 + 1 + 1, 0, none⟩ (.slice s3 (divF a b m).2.length t3)).drew w.heap.size (.slice s3 (divF a b m).2.length t3) (divF a b m).2 from
    ((OwI.mono (B := w2.heap.size) (OwI.setCell (OwI.setCell N4.out (a := ⟨w.heap.size + 1 + 1, 0, none⟩) (by simp only; omega) _) (a := ⟨w.heap.size + 1 + 1 + 1, 0, none⟩) (by simp only; omega) _) (by omega)).below ((Below.refl _ _).drew)))
  have F3 := Lib.hid (show Below w.heap.size w ((w4.setCell ⟨w.heap.size + 1 + 1, 0, none⟩ (.slice p3 (divF a b m).1.length q3)).setCell ⟨w.heap.size + 1 + 1 + 1, 0, none⟩ (.slice s3 (divF a b m).2.length t3)).drew from (Below.setCell (Below.setCell Bw4.out (by simp only; omega) _) (by simp only; omega) _).drew)
  have X8 : ((w4.setCell ⟨w.heap.size + 1 + 1, 0, none⟩ (.slice p3 (divF a b m).1.length q3)).setCell ⟨w.heap.size + 1 + 1 + 1, 0, none⟩ (.slice s3 (divF a b m).2.length t3)).drew.cell? ⟨w.heap.size + 1 + 1, 0, none⟩ = some (.slice p3 (divF a b m).1.length q3) := by rw [World.cell?_drew, cellZ (by omega)]; exact World.cell?_setCell_same _ _ _ x8
  have X9 : ((w4.setCell ⟨w.heap.size + 1 + 1, 0, none⟩ (.slice p3 (divF a b m).1.length q3)).setCell ⟨w.heap.size + 1 + 1 + 1, 0, none⟩ (.slice s3 (divF a b m).2.length t3)).drew.cell? ⟨w.heap.size + 1 + 1 + 1, 0, none⟩ = some (.slice s3 (divF a b m).2.length t3) := by rw [World.cell?_drew]; exact World.cell?_setCell_same _ _ _ (by rw [cellZ (by omega)]; exact x9)
  generalize ((w4.setCell ⟨w.heap.size + 1 + 1, 0, none⟩ (.slice p3 (divF a b m).1.length q3)).setCell ⟨w.heap.size + 1 + 1 + 1, 0, none⟩ (.slice s3 (divF a b m).2.length t3)).drew = wF at *
  generalize divF a b m = D at *
  clear x8 x9 y8 y9 n89 n98 ng8 ng9 nh8 nh9 xa xb O4 N4 O3 N3
  (try simp only [Exit.then])
  apply_assumption
  refine wp_ret ?_
  refine bodyPost_ret (by simp [results, Try.results56, go_sem, X8, X9]; try rfl) rfl ?_
  exact ⟨_, _, rfl, F1.out, F2.out, F3.out⟩

end Go.Proofs.Ytlnjkjogedbhfaa

/- RootsOver of the program at good arguments: how many roots. Conditions: a whole over a prime, of at most 17 terms, not 0. -/
namespace Go.Proofs.Ytlnjkjogedbhfaa
open Go Go.RowKit
set_option linter.unusedSimpArgs false
set_option linter.unusedVariables false
set_option linter.unusedSimpArgs false
set_option linter.unusedVariables false

def RRoots (n : Nat) (w : World) (e : Ending) (w' : World) : Prop := ∃ v zs, e = .returned (.tuple #[v, .bool true]) ∧ OwI w' w.heap.size v zs ∧ zs.length = n ∧ Below w.heap.size w w'
theorem hor_mod {m x : Int} {zs : List Int} {j : Nat} (h : j < zs.length) : (hor zs x j % m * x + zs.getD (zs.length - 1 - j) 0) % m = hor zs x (j + 1) % m := by
  have e : hor zs x (j + 1) = hor zs x j * x + zs.getD (zs.length - 1 - j) 0 := by rw [hor, show zs.length - 1 - j = zs.length - (j + 1) by omega]; rfl
  rw [e, Int.add_emod, Int.mul_emod, Int.emod_emod_of_dvd _ (Int.dvd_refl m), ← Int.mul_emod, ← Int.add_emod]
theorem cx_le (M : Nat) (a : List Int) : ∀ k, cx M a k ≤ k
  | 0 => Nat.le_refl _
  | k + 1 => by have := cx_le M a k; rw [cx]; split <;> omega

set_option maxRecDepth 100000 in
set_option maxHeartbeats 4000000 in
theorem RootsOver_impl (va : Value) (a : List Int) (M : Nat) (w : World) (ha : RdI w va a) (hm : primeB (M : Int) = true) (oa : Ovr M a) (la : a.length ≤ 17) (hz : zeroB a = false) : Calls Try.prog 58 #[.agg #[va], .int .i64 M] w (RRoots (cx M a M) w) := by
  have Ha := Lib.hid ha
  have Oa := Lib.hid oa
  have hm2 := primeB_bd hm
  have hM : 2 ≤ M ∧ M ≤ 13 := by omega
  have Hqa := Lib.hid (overB_mk hm oa la)
  have Hz := Lib.hid hz
  have Hne := Lib.hid oa.ne
  have hl0 : 0 < a.length := List.length_pos_iff.2 oa.ne
  obtain ⟨aoa, ca, rfl⟩ := ha.shape
  clear ha hm oa hz hm2
  have Hq := Lib.hid (show areOverB (M : Int) [a] = true by rw [areOverB_one]; exact Hqa.out)
  go_enter Try.func58, Try.ntmps58
  go_wp2_with fail
  with_reducible refine (areOver_impl _ [a] (M : Int) _ ?lit (by simp) (fun i => by rcases i with _ | i <;> simp; omega)).mono ?_
  case lit => exact RdWs.lit1 (by simp) (Ha.out.below (by (repeat' (first | (with_reducible exact Below.refl _ _) | (with_reducible assumption) | (with_reducible refine Below.alloc ?_ ?_ _) | (with_reducible refine Below.setCell ?_ ?_ _) | (with_reducible refine Below.drew ?_) | (with_reducible refine Below.via (by assumption) ?_ ?_) | go_size))))
  rintro e w1 ⟨rfl, hb1⟩
  rw [Hq.out]
  have z1 := hb1.size
  simp only [World.size_alloc] at z1
  have x1 : w1.cell? ⟨w.heap.size, 0, none⟩ = some (.slice aoa a.length ca) := (hb1.cell (p := ⟨w.heap.size, 0, none⟩) (by simp; omega)).trans (by go_simp)
  have Bw1 := Lib.hid (show Below w.heap.size w w1 by (repeat' (first | (with_reducible exact Below.refl _ _) | (with_reducible assumption) | (with_reducible refine Below.alloc ?_ ?_ _) | (with_reducible refine Below.setCell ?_ ?_ _) | (with_reducible refine Below.drew ?_) | (with_reducible refine Below.via (by assumption) ?_ ?_) | go_size)))
  have l1 : w.heap.size < w1.heap.size := by omega
  clear hb1
  go_wp2_with fail
  (go_at_call 93; ((with_reducible refine (noWhole_impl _ a _ (Ha.out.below (by have h := Bw1.out; (repeat' (first | (with_reducible exact Below.refl _ _) | (with_reducible assumption) | (with_reducible refine Below.alloc ?_ ?_ _) | (with_reducible refine Below.setCell ?_ ?_ _) | (with_reducible refine Below.drew ?_) | (with_reducible refine Below.via (by assumption) ?_ ?_) | go_size)))) (by omega)).mono ?_); rintro e w2 ⟨rfl, b2⟩))
  rw [Hz.out]
  have z2 := b2.size
  have x2 := (b2.cell (p := ⟨w.heap.size, 0, none⟩) l1).trans x1
  have l2 : w.heap.size < w2.heap.size := by omega
  have Bw2 := Lib.hid (Bw1.out.trans (b2.mono (by omega)))
  have R2 := Lib.hid (RowI.emptyB (E := fun _ => 0) (W := w2) (s := w2.heap.size) (B := w2.heap.size) rfl (Nat.le_refl _))
  clear b2 x1
  go_wp2_with fail
  go_loopw [6, 21] (fun ov xv wr => ∃ (k : Nat) (zs : List Int), k ≤ M ∧ xv = .int .i64 k ∧ zs.length = cx M a k ∧ RowI wr w2.heap.size ov zs ∧ Below w2.heap.size w2 wr) (fun _ xv _ => M - (intOf xv).toNat)
  case atStart => exact ⟨0, [], Nat.zero_le _, rfl, rfl, R2.out, by (repeat' (first | (with_reducible exact Below.refl _ _) | (with_reducible assumption) | (with_reducible refine Below.alloc ?_ ?_ _) | (with_reducible refine Below.setCell ?_ ?_ _) | (with_reducible refine Below.drew ?_) | (with_reducible refine Below.via (by assumption) ?_ ?_) | go_size))⟩
  case round =>
    obtain ⟨k, zs, hk, rfl, hlz, hrow, hbel⟩ := hrel
    have Hrow := Lib.hid hrow
    have Hlz := Lib.hid hlz
    have hsz := hbel.size
    have xr := (hbel.cell (p := ⟨w.heap.size, 0, none⟩) l2).trans x2
    have Hbel := Lib.hid hbel
    have lr : w.heap.size < wr.heap.size := by omega
    have hzl : zs.length ≤ 13 := by have := cx_le M a k; omega
    obtain ⟨wo, hwo⟩ : ∃ wo : World, wo = wr := ⟨_, rfl⟩
    subst hwo
    clear hrow hbel hlz
    by_cases hlt : k < M
    · have hlti : (k : Int) < (M : Int) := by omega
      have HR := Lib.hid (Ha.out.below (Bw2.out.trans (Hbel.out.mono (by omega))))
      obtain ⟨bA, fA, qA, hve, hbA, hcA⟩ := HR.out.open Hne.out
      simp only [Value.slice.injEq, true_and] at hve
      obtain ⟨rfl, rfl⟩ := hve
      have HcA := Lib.hid hcA
      clear hcA
      go_wp2_with fail
      (go_at_call 79; ((with_reducible refine (degree_exact _ _ _ _ (by omega)).mono ?_); rintro e w' ⟨rfl, rfl⟩))
      go_wp2_with fail
      generalize hw3 : World.alloc _ _ = w3
      have Hw3 := Lib.hid hw3
      clear hw3
      have B3 := Lib.hid (show Below wo.heap.size wo w3 by rw [← Hw3.out]; (repeat' (first | (with_reducible exact Below.refl _ _) | (with_reducible assumption) | (with_reducible refine Below.alloc ?_ ?_ _) | (with_reducible refine Below.setCell ?_ ?_ _) | (with_reducible refine Below.drew ?_) | (with_reducible refine Below.via (by assumption) ?_ ?_) | go_size)))
      have z3 := B3.out.size
      have x3 := (B3.out.cell (p := ⟨w.heap.size, 0, none⟩) lr).trans xr
      have HC3 := Lib.hid (fun i (hi : i < a.length) => (B3.out.cell (p := ⟨bA, fA + i, none⟩) hbA).trans (HcA.out i hi))
      clear Hw3 xr
      go_loopw [8, 9] (fun vv kv wr => ∃ j : Nat, j ≤ a.length ∧ kv = .int .i64 ((a.length : Int) - 1 - j) ∧ vv = .int .i64 (hor a k j % M) ∧ w3 = wr) (fun _ kv _ => (intOf kv + 1).toNat)
      case atStart => exact ⟨0, Nat.zero_le _, by simp, by simp [hor], rfl⟩
      case round =>
        obtain ⟨j, hj, rfl, rfl, rfl⟩ := hrel
        have hv := (show 0 ≤ hor a k j % M ∧ hor a k j % M < M from ⟨Int.emod_nonneg _ (by omega), Int.emod_lt_of_pos _ (by omega)⟩)
        by_cases hlj : j < a.length
        · have hg : (0 : Int) ≤ (a.length : Int) - 1 - j := by omega
          have hg2 : (a.length : Int) - 1 - j < (a.length : Int) := by omega
          have hgt : ((a.length : Int) - 1 - j).toNat = a.length - 1 - j := by omega
          have c1 := HC3.out (a.length - 1 - j) (by omega)
          have hp := Oa.out.ov (a.length - 1 - j)
          have Hm := Lib.hid (hor_mod (m := (M : Int)) (x := (k : Int)) hlj)
          have hlt2 : a.length - 1 - j < a.length := by omega
          have hw1 : IntKind.i64.wrap ((a.length : Int) - 1 - j - 1) = (a.length : Int) - 1 - j - 1 := IntWalk.i64_in _ ⟨by omega, by omega⟩
          generalize hor a k j % M = V at *
          generalize a.getD (a.length - 1 - j) 0 = p at *
          have hb1 : V * k ≤ 13 * 13 := Int.mul_le_mul (by omega) (by omega) (by omega) (by omega)
          have hb2 : 0 ≤ V * k := Int.mul_nonneg (by omega) (by omega)
          have q4 : IntKind.i64.wrap (V * k) = V * k := IntWalk.i64_in _ ⟨by omega, by omega⟩
          have q5 : IntKind.i64.wrap (V * k + p) = V * k + p := IntWalk.i64_in _ ⟨by omega, by omega⟩
          go_wp2_with fail
          (go_at_call 85; ((with_reducible refine (rest_impl _ _ _ (by omega) (by omega) (by omega) (by omega)).mono ?_); rintro e w' ⟨rfl, rfl⟩))
          rw [Hm.out]
          go_wp2_with fail
          go_roundw
          case rel => exact ⟨j + 1, by omega, by first | (congr 1; omega) | (simp; omega), by first | rfl | trivial, by first | rfl | trivial⟩
          case measure => simp [intOf]; omega
        · obtain rfl : j = a.length := by omega
          have hg : ¬ (0 : Int) ≤ (a.length : Int) - 1 - a.length := by omega
          have Hev := Lib.hid (show hor a k a.length % M = ev a k % M by rw [hor_all])
          rw [Hev.out] at hv ⊢
          have Hcx := Lib.hid (show cx M a (k + 1) = cx M a k + if ev a (k : Int) % M = 0 then 1 else 0 from rfl)
          by_cases h0 : ev a (k : Int) % M = 0
          · have hlen : zs.length ≤ 1099511627776 := by omega
            rw [h0]
            have Rw := Lib.hid (Hrow.out.below B3.out)
            go_wp2_with (at_builtin; refine wpList_pushI Rw.out rfl _ _ rfl int64S_under hlen (by first | omega | (simp only [World.size_alloc]; omega)) rfl rfl ?_; intro v9 w9 hr9 hb9)
            go_roundw
            case rel => exact ⟨k + 1, zs ++ [(k : Int)], by omega, by go_num, by rw [Hcx.out, if_pos h0, List.length_append, Hlz.out]; rfl, hr9, (Hbel.out.trans (B3.out.mono hsz)).trans hb9⟩
            case measure => simp [intOf]; omega
          · have f1 : (ev a (k : Int) % M == 0) = false := by simpa using h0
            generalize ev a (k : Int) % M = E at *
            go_wp2_with fail
            go_roundw
            case rel => exact ⟨k + 1, zs, by omega, by go_num, by rw [Hcx.out, if_neg h0, Hlz.out]; rfl, Hrow.out.below B3.out, Hbel.out.trans (B3.out.mono hsz)⟩
            case measure => simp [intOf]; omega
    · obtain rfl : k = M := by omega
      have hlti : ¬ ((k : Int) < (k : Int)) := by omega
      go_wp2_with fail
      go_ret2
      exact ⟨_, zs, rfl, Hrow.out.own.mono (by omega), Hlz.out, Bw2.out.trans (Hbel.out.mono (by omega))⟩

end Go.Proofs.Ytlnjkjogedbhfaa

/- b10Ints: whether two lists are the same. Conditions: lengths of at most 2^40. -/
namespace Go.Proofs.Ytlnjkjogedbhfaa
open Go Go.RowKit
set_option linter.unusedSimpArgs false
set_option linter.unusedVariables false
set_option linter.unusedSimpArgs false
set_option linter.unusedVariables false

set_option maxRecDepth 100000 in
set_option maxHeartbeats 1600000 in
theorem b10Ints_gen (va vb : Value) (xs ys : List Int) (w : World) (ha : RdI w va xs) (hb : RdI w vb ys) (hnx : xs ≠ []) (hny : ys ≠ []) (hlx : xs.length ≤ 1099511627776) (hly : ys.length ≤ 1099511627776) : Calls Try.prog 60 #[va, vb] w (RB (decide (xs = ys)) w) := by
  obtain ⟨b, off, cap, rfl, _, hc⟩ := ha.open hnx
  obtain ⟨b', off', cap', rfl, _, hc'⟩ := hb.open hny
  have Hc := Lib.hid hc
  have Hc' := Lib.hid hc'
  clear hc hc' ha hb hnx hny
  by_cases hl : xs.length = ys.length
  · have Hl := Lib.hid hl
    have hn1 : ((xs.length : Int) != (ys.length : Int)) = false := by rw [hl]; simp
    have hn2 : ((xs.length : Int) == (ys.length : Int)) = true := by rw [hl]; simp
    clear hl
    go_enter Try.func60, Try.ntmps60
    go_wp2
    go_loopw [13] (fun i wr => ∃ k m : Nat, k ≤ xs.length ∧ i = .int .i64 k ∧ wr = w.drewN m ∧ ∀ j, j < k → xs.getD j 0 = ys.getD j 0) (fun i _ => xs.length - (intOf i).toNat)
    case atStart => exact ⟨0, 0, Nat.zero_le _, rfl, rfl, fun j hj => absurd hj (by omega)⟩
    case round =>
      obtain ⟨k, m, hk, rfl, rfl, hall⟩ := hrel
      have Hall := Lib.hid hall
      clear hall
      by_cases hlt : k < xs.length
      · have hlti : (k : Int) < (xs.length : Int) := by omega
        have hlt' : k < ys.length := by rw [← Hl.out]; exact hlt
        have hlti' : (k : Int) < (ys.length : Int) := by omega
        have c1 := Hc.out k hlt
        have c2 := Hc'.out k hlt'
        by_cases hz : xs.getD k 0 = ys.getD k 0
        · have Hz := Lib.hid hz
          rw [hz] at c1
          clear hz
          obtain ⟨z, hz2⟩ : ∃ z, z = ys.getD k 0 := ⟨_, rfl⟩
          rw [← hz2] at c1 c2
          clear hz2
          go_wp2_with fail
          go_quiet (fail)
          go_wp2
          go_roundw
          case rel => exact ⟨k + 1, _, by omega, by go_num, rfl, fun j hj => by
            by_cases e : j = k
            · subst e; exact Hz.out
            · exact Hall.out j (by omega)⟩
          case measure => simp [intOf]; omega
        · have Hz := Lib.hid hz
          have Hd := Lib.hid (show decide (xs = ys) = false from decide_eq_false (fun h => hz (by rw [h])))
          have f1 : (xs.getD k 0 != ys.getD k 0) = true := by simpa using hz
          have f2 : (xs.getD k 0 == ys.getD k 0) = false := by simpa using hz
          clear hz
          generalize xs.getD k 0 = z at *
          generalize ys.getD k 0 = y at *
          go_wp2_with fail
          go_quiet (fail)
          go_wp2
          go_ret
          rw [Hd.out]
          exact ⟨rfl, (drewN_below w m).trans ((drewN_below _ _).mono (by simp))⟩
      · obtain rfl : k = xs.length := by omega
        have Hd := Lib.hid (show decide (xs = ys) = true from decide_eq_true (ext_getD Hl.out (fun i => by
          by_cases hi : i < xs.length
          · exact Hall.out i hi
          · rw [List.getD, List.getD, List.getElem?_eq_none (by omega), List.getElem?_eq_none (by have := Hl.out; omega)])))
        go_wp2
        go_ret
        rw [Hd.out]
        exact ⟨rfl, drewN_below _ _⟩
  · have Hd := Lib.hid (show decide (xs = ys) = false from decide_eq_false (fun h => hl (by rw [h])))
    have hn1 : ((xs.length : Int) != (ys.length : Int)) = true := by simp; omega
    have hn2 : ((xs.length : Int) == (ys.length : Int)) = false := by simp; omega
    go_enter Try.func60, Try.ntmps60
    go_wp2
    go_ret
    rw [Hd.out]
    exact ⟨rfl, Below.refl _ _⟩

end Go.Proofs.Ytlnjkjogedbhfaa

/- FnOver: the tails of its walk. Conditions: none. -/
namespace Go.Proofs.Ytlnjkjogedbhfaa
open Go Go.RowKit
set_option linter.unusedSimpArgs false
set_option linter.unusedVariables false
set_option linter.unusedSimpArgs false
set_option linter.unusedVariables false

/-- What is drawn. -/
structure OK (w : World) (M : Nat) (code more a b : List Int) (pc : Option Addr) (qc : Nat) (pm : Option Addr) (qm : Nat) : Prop where
  rc : RdB w (.slice pc code.length qc) code
  rm : RdB w (.slice pm more.length qm) more
  hM : M = 2 ∨ M = 3 ∨ M = 5 ∨ M = 7
  oa : Ovr M a
  a2 : 2 ≤ a.length
  a6 : a.length ≤ 6
  ob : Ovr M b
  b2 : 2 ≤ b.length
  b4 : b.length ≤ 4
noncomputable def fnOverCode : Code := (Try.f12.body).getD .skip

set_option maxRecDepth 1000000 in
/-- What follows from statement 6 on. -/
def OT6 : Prop := ∀ {w : World} {M : Nat} {code more a b : List Int} {pc : Option Addr} {qc : Nat} {pm : Option Addr} {qm : Nat} {wr : World} {a7 a8 : Nat} {x2 x3 x4 x5 x9 x10 x11 x12 x13 x14 x15 x16 x17 x18 x19 x20 x21 x22 x23 x24 x25 x26 x27 x28 x29 x30 x31 x32 x33 x34 x35 x36 x37 x38 x39 x40 x41 x42 x43 x44 x45 x46 x47 x48 x49 x50 x51 x52 x53 x54 x55 x56 x57 x58 x59 x60 x61 x62 x63 x64 x65 x66 x67 x68 x69 x70 x71 x72 x73 x74 x75 x76 x77 x78 x79 x80 x81 x82 x83 x84 x85 x86 x87 x88 x89 x90 x91 x92 x93 x94 x95 x96 x97 x98 x99 x100 x101 x102 x103 x104 x105 x106 x107 x108 x109 x110 x111 x112 x113 x114 x115 x116 x117 x118 x119 x120 x121 x122 x123 x124 x125 x126 x127 x128 x129 x130 x131 x132 x133 x134 x135 x136 x137 x138 x139 x140 x141 x142 x143 x144 x145 x146 x147 x148 x149 x150 x151 x152 x153 x154 x155 x156 x157 x158 x159 x160 x161 x162 x163 x164 x165 x166 x167 x168 x169 x170 x171 x172 x173 x174 x175 x176 x177 x178 x179 x180 x181 x182 x183 x184 x185 x186 x187 x188 x189 x190 x191 x192 x193 x194 x195 x196 x197 x198 x199 x200 x201 x202 x203 x204 x205 x206 x207 x208 x209 x210 x211 x212 x213 x214 x215 x216 x217 x218 x219 x220 x221 x222 x223 x224 x225 x226 x227 x228 x229 x230 x231 x232 x233 x234 x235 x236 x237 x238 x239 x240 x241 x242 x243 x244 x245 x246 x247 x248 x249 x250 x251 x252 x253 x254 x255 x256 x257 x258 x259 x260 x261 x262 x263 x264 x265 x266 x267 x268 x269 x270 x271 x272 x273 x274 x275 x276 x277 x278 x279 x280 x281 x282 x283 x284 x285 x286 x287 x288 x289 x290 x291 x292 x293 x294 x295 x296 x297 x298 x299 x300 x301 x302 x303 x304 x305 x306 x307 x308 x309 x310 x311 x312 x313 x314 x315 x316 x317 x318 x319 x320 x321 x322 x323 x324 x325 x326 x327 x328 x329 x330 x331 x332 x333 x334 x335 x336 x337 x338 x339 x340 x341 x342 x343 x344 x345 x346 x347 x348 x349 x350 x351 x352 x353 x354 x355 x356 x357 x358 x359 x360 x361 x362 x363 x364 x365 x366 x367 x368 x369 x370 x371 x372 x373 x374 x375 x376 x377 x378 x379 x380 x381 x382 x383 x384 x385 x386 x387 x388 x389 x390 x391 x392 x393 x394 x395 x396 x397 x398 x399 x400 x401 x402 x403 x404 x405 x406 x407 x408 x409 x410 x411 x412 x413 x414 x415 : Value}, OK w M code more a b pc qc pm qm → Below w.heap.size w wr → BxW wr a7 a → BxW wr a8 b → (dropC 6 fnOverCode).wp Try.prog (bodyPost Try.prog Try.f12 (RB true w)) ⟨List.toArray (.slice pc code.length qc :: .slice pm more.length qm :: x2 :: x3 :: x4 :: x5 :: .int .i64 M :: .pointer (some ⟨a7, 0, none⟩) :: .pointer (some ⟨a8, 0, none⟩) :: x9 :: x10 :: x11 :: x12 :: x13 :: x14 :: x15 :: x16 :: x17 :: x18 :: x19 :: x20 :: x21 :: x22 :: x23 :: x24 :: x25 :: x26 :: x27 :: x28 :: x29 :: x30 :: x31 :: x32 :: x33 :: x34 :: x35 :: x36 :: x37 :: x38 :: x39 :: x40 :: x41 :: x42 :: x43 :: x44 :: x45 :: x46 :: x47 :: x48 :: x49 :: x50 :: x51 :: x52 :: x53 :: x54 :: x55 :: x56 :: x57 :: x58 :: x59 :: x60 :: x61 :: x62 :: x63 :: x64 :: x65 :: x66 :: x67 :: x68 :: x69 :: x70 :: x71 :: x72 :: x73 :: x74 :: x75 :: x76 :: x77 :: x78 :: x79 :: x80 :: x81 :: x82 :: x83 :: x84 :: x85 :: x86 :: x87 :: x88 :: x89 :: x90 :: x91 :: x92 :: x93 :: x94 :: x95 :: x96 :: x97 :: x98 :: x99 :: x100 :: x101 :: x102 :: x103 :: x104 :: x105 :: x106 :: x107 :: x108 :: x109 :: x110 :: x111 :: x112 :: x113 :: x114 :: x115 :: x116 :: x117 :: x118 :: x119 :: x120 :: x121 :: x122 :: x123 :: x124 :: x125 :: x126 :: x127 :: x128 :: x129 :: x130 :: x131 :: x132 :: x133 :: x134 :: x135 :: x136 :: x137 :: x138 :: x139 :: x140 :: x141 :: x142 :: x143 :: x144 :: x145 :: x146 :: x147 :: x148 :: x149 :: x150 :: x151 :: x152 :: x153 :: x154 :: x155 :: x156 :: x157 :: x158 :: x159 :: x160 :: x161 :: x162 :: x163 :: x164 :: x165 :: x166 :: x167 :: x168 :: x169 :: x170 :: x171 :: x172 :: x173 :: x174 :: x175 :: x176 :: x177 :: x178 :: x179 :: x180 :: x181 :: x182 :: x183 :: x184 :: x185 :: x186 :: x187 :: x188 :: x189 :: x190 :: x191 :: x192 :: x193 :: x194 :: x195 :: x196 :: x197 :: x198 :: x199 :: x200 :: x201 :: x202 :: x203 :: x204 :: x205 :: x206 :: x207 :: x208 :: x209 :: x210 :: x211 :: x212 :: x213 :: x214 :: x215 :: x216 :: x217 :: x218 :: x219 :: x220 :: x221 :: x222 :: x223 :: x224 :: x225 :: x226 :: x227 :: x228 :: x229 :: x230 :: x231 :: x232 :: x233 :: x234 :: x235 :: x236 :: x237 :: x238 :: x239 :: x240 :: x241 :: x242 :: x243 :: x244 :: x245 :: x246 :: x247 :: x248 :: x249 :: x250 :: x251 :: x252 :: x253 :: x254 :: x255 :: x256 :: x257 :: x258 :: x259 :: x260 :: x261 :: x262 :: x263 :: x264 :: x265 :: x266 :: x267 :: x268 :: x269 :: x270 :: x271 :: x272 :: x273 :: x274 :: x275 :: x276 :: x277 :: x278 :: x279 :: x280 :: x281 :: x282 :: x283 :: x284 :: x285 :: x286 :: x287 :: x288 :: x289 :: x290 :: x291 :: x292 :: x293 :: x294 :: x295 :: x296 :: x297 :: x298 :: x299 :: x300 :: x301 :: x302 :: x303 :: x304 :: x305 :: x306 :: x307 :: x308 :: x309 :: x310 :: x311 :: x312 :: x313 :: x314 :: x315 :: x316 :: x317 :: x318 :: x319 :: x320 :: x321 :: x322 :: x323 :: x324 :: x325 :: x326 :: x327 :: x328 :: x329 :: x330 :: x331 :: x332 :: x333 :: x334 :: x335 :: x336 :: x337 :: x338 :: x339 :: x340 :: x341 :: x342 :: x343 :: x344 :: x345 :: x346 :: x347 :: x348 :: x349 :: x350 :: x351 :: x352 :: x353 :: x354 :: x355 :: x356 :: x357 :: x358 :: x359 :: x360 :: x361 :: x362 :: x363 :: x364 :: x365 :: x366 :: x367 :: x368 :: x369 :: x370 :: x371 :: x372 :: x373 :: x374 :: x375 :: x376 :: x377 :: x378 :: x379 :: x380 :: x381 :: x382 :: x383 :: x384 :: x385 :: x386 :: x387 :: x388 :: x389 :: x390 :: x391 :: x392 :: x393 :: x394 :: x395 :: x396 :: x397 :: x398 :: x399 :: x400 :: x401 :: x402 :: x403 :: x404 :: x405 :: x406 :: x407 :: x408 :: x409 :: x410 :: x411 :: x412 :: x413 :: x414 :: x415 :: []), []⟩ wr

set_option maxRecDepth 1000000 in
/-- What follows from statement 13 on. -/
def OT13 : Prop := ∀ {w : World} {M : Nat} {code more a b : List Int} {pc : Option Addr} {qc : Nat} {pm : Option Addr} {qm : Nat} {wr : World} {a7 a8 : Nat} {p14 p16 p18 p20 : Option Addr} {q14 q16 q18 q20 n18 : Nat} {a10 a12 : Nat} {x2 x3 x4 x5 x9 x11 x13 x15 x17 x19 x21 x22 x23 x24 x25 x26 x27 x28 x29 x30 x31 x32 x33 x34 x35 x36 x37 x38 x39 x40 x41 x42 x43 x44 x45 x46 x47 x48 x49 x50 x51 x52 x53 x54 x55 x56 x57 x58 x59 x60 x61 x62 x63 x64 x65 x66 x67 x68 x69 x70 x71 x72 x73 x74 x75 x76 x77 x78 x79 x80 x81 x82 x83 x84 x85 x86 x87 x88 x89 x90 x91 x92 x93 x94 x95 x96 x97 x98 x99 x100 x101 x102 x103 x104 x105 x106 x107 x108 x109 x110 x111 x112 x113 x114 x115 x116 x117 x118 x119 x120 x121 x122 x123 x124 x125 x126 x127 x128 x129 x130 x131 x132 x133 x134 x135 x136 x137 x138 x139 x140 x141 x142 x143 x144 x145 x146 x147 x148 x149 x150 x151 x152 x153 x154 x155 x156 x157 x158 x159 x160 x161 x162 x163 x164 x165 x166 x167 x168 x169 x170 x171 x172 x173 x174 x175 x176 x177 x178 x179 x180 x181 x182 x183 x184 x185 x186 x187 x188 x189 x190 x191 x192 x193 x194 x195 x196 x197 x198 x199 x200 x201 x202 x203 x204 x205 x206 x207 x208 x209 x210 x211 x212 x213 x214 x215 x216 x217 x218 x219 x220 x221 x222 x223 x224 x225 x226 x227 x228 x229 x230 x231 x232 x233 x234 x235 x236 x237 x238 x239 x240 x241 x242 x243 x244 x245 x246 x247 x248 x249 x250 x251 x252 x253 x254 x255 x256 x257 x258 x259 x260 x261 x262 x263 x264 x265 x266 x267 x268 x269 x270 x271 x272 x273 x274 x275 x276 x277 x278 x279 x280 x281 x282 x283 x284 x285 x286 x287 x288 x289 x290 x291 x292 x293 x294 x295 x296 x297 x298 x299 x300 x301 x302 x303 x304 x305 x306 x307 x308 x309 x310 x311 x312 x313 x314 x315 x316 x317 x318 x319 x320 x321 x322 x323 x324 x325 x326 x327 x328 x329 x330 x331 x332 x333 x334 x335 x336 x337 x338 x339 x340 x341 x342 x343 x344 x345 x346 x347 x348 x349 x350 x351 x352 x353 x354 x355 x356 x357 x358 x359 x360 x361 x362 x363 x364 x365 x366 x367 x368 x369 x370 x371 x372 x373 x374 x375 x376 x377 x378 x379 x380 x381 x382 x383 x384 x385 x386 x387 x388 x389 x390 x391 x392 x393 x394 x395 x396 x397 x398 x399 x400 x401 x402 x403 x404 x405 x406 x407 x408 x409 x410 x411 x412 x413 x414 x415 : Value}, OK w M code more a b pc qc pm qm → Below w.heap.size w wr → BxW wr a7 a → BxW wr a8 b → n18 = cx M a M → RdWs wr (.slice p14 (facL (M : Int) a).length q14) (facL (M : Int) a) → RdWs wr (.slice p16 (facL (M : Int) a).length q16) (facL (M : Int) a) → RdSS wr (.slice p20 2 q20) [(facL (M : Int) a), facL (M : Int) b] → BxW wr a10 (divF a b (M : Int)).2 → BxW wr a12 (mulF (M : Int) (divF a b (M : Int)).1 b) → (dropC 13 fnOverCode).wp Try.prog (bodyPost Try.prog Try.f12 (RB true w)) ⟨List.toArray (.slice pc code.length qc :: .slice pm more.length qm :: x2 :: x3 :: x4 :: x5 :: .int .i64 M :: .pointer (some ⟨a7, 0, none⟩) :: .pointer (some ⟨a8, 0, none⟩) :: x9 :: .pointer (some ⟨a10, 0, none⟩) :: x11 :: .pointer (some ⟨a12, 0, none⟩) :: x13 :: .slice p14 (facL (M : Int) a).length q14 :: x15 :: .slice p16 (facL (M : Int) a).length q16 :: x17 :: .slice p18 n18 q18 :: x19 :: .slice p20 2 q20 :: x21 :: x22 :: x23 :: x24 :: x25 :: x26 :: x27 :: x28 :: x29 :: x30 :: x31 :: x32 :: x33 :: x34 :: x35 :: x36 :: x37 :: x38 :: x39 :: x40 :: x41 :: x42 :: x43 :: x44 :: x45 :: x46 :: x47 :: x48 :: x49 :: x50 :: x51 :: x52 :: x53 :: x54 :: x55 :: x56 :: x57 :: x58 :: x59 :: x60 :: x61 :: x62 :: x63 :: x64 :: x65 :: x66 :: x67 :: x68 :: x69 :: x70 :: x71 :: x72 :: x73 :: x74 :: x75 :: x76 :: x77 :: x78 :: x79 :: x80 :: x81 :: x82 :: x83 :: x84 :: x85 :: x86 :: x87 :: x88 :: x89 :: x90 :: x91 :: x92 :: x93 :: x94 :: x95 :: x96 :: x97 :: x98 :: x99 :: x100 :: x101 :: x102 :: x103 :: x104 :: x105 :: x106 :: x107 :: x108 :: x109 :: x110 :: x111 :: x112 :: x113 :: x114 :: x115 :: x116 :: x117 :: x118 :: x119 :: x120 :: x121 :: x122 :: x123 :: x124 :: x125 :: x126 :: x127 :: x128 :: x129 :: x130 :: x131 :: x132 :: x133 :: x134 :: x135 :: x136 :: x137 :: x138 :: x139 :: x140 :: x141 :: x142 :: x143 :: x144 :: x145 :: x146 :: x147 :: x148 :: x149 :: x150 :: x151 :: x152 :: x153 :: x154 :: x155 :: x156 :: x157 :: x158 :: x159 :: x160 :: x161 :: x162 :: x163 :: x164 :: x165 :: x166 :: x167 :: x168 :: x169 :: x170 :: x171 :: x172 :: x173 :: x174 :: x175 :: x176 :: x177 :: x178 :: x179 :: x180 :: x181 :: x182 :: x183 :: x184 :: x185 :: x186 :: x187 :: x188 :: x189 :: x190 :: x191 :: x192 :: x193 :: x194 :: x195 :: x196 :: x197 :: x198 :: x199 :: x200 :: x201 :: x202 :: x203 :: x204 :: x205 :: x206 :: x207 :: x208 :: x209 :: x210 :: x211 :: x212 :: x213 :: x214 :: x215 :: x216 :: x217 :: x218 :: x219 :: x220 :: x221 :: x222 :: x223 :: x224 :: x225 :: x226 :: x227 :: x228 :: x229 :: x230 :: x231 :: x232 :: x233 :: x234 :: x235 :: x236 :: x237 :: x238 :: x239 :: x240 :: x241 :: x242 :: x243 :: x244 :: x245 :: x246 :: x247 :: x248 :: x249 :: x250 :: x251 :: x252 :: x253 :: x254 :: x255 :: x256 :: x257 :: x258 :: x259 :: x260 :: x261 :: x262 :: x263 :: x264 :: x265 :: x266 :: x267 :: x268 :: x269 :: x270 :: x271 :: x272 :: x273 :: x274 :: x275 :: x276 :: x277 :: x278 :: x279 :: x280 :: x281 :: x282 :: x283 :: x284 :: x285 :: x286 :: x287 :: x288 :: x289 :: x290 :: x291 :: x292 :: x293 :: x294 :: x295 :: x296 :: x297 :: x298 :: x299 :: x300 :: x301 :: x302 :: x303 :: x304 :: x305 :: x306 :: x307 :: x308 :: x309 :: x310 :: x311 :: x312 :: x313 :: x314 :: x315 :: x316 :: x317 :: x318 :: x319 :: x320 :: x321 :: x322 :: x323 :: x324 :: x325 :: x326 :: x327 :: x328 :: x329 :: x330 :: x331 :: x332 :: x333 :: x334 :: x335 :: x336 :: x337 :: x338 :: x339 :: x340 :: x341 :: x342 :: x343 :: x344 :: x345 :: x346 :: x347 :: x348 :: x349 :: x350 :: x351 :: x352 :: x353 :: x354 :: x355 :: x356 :: x357 :: x358 :: x359 :: x360 :: x361 :: x362 :: x363 :: x364 :: x365 :: x366 :: x367 :: x368 :: x369 :: x370 :: x371 :: x372 :: x373 :: x374 :: x375 :: x376 :: x377 :: x378 :: x379 :: x380 :: x381 :: x382 :: x383 :: x384 :: x385 :: x386 :: x387 :: x388 :: x389 :: x390 :: x391 :: x392 :: x393 :: x394 :: x395 :: x396 :: x397 :: x398 :: x399 :: x400 :: x401 :: x402 :: x403 :: x404 :: x405 :: x406 :: x407 :: x408 :: x409 :: x410 :: x411 :: x412 :: x413 :: x414 :: x415 :: []), []⟩ wr

set_option maxRecDepth 1000000 in
/-- What follows from statement 14 on. -/
def OT14 : Prop := ∀ {w : World} {M : Nat} {code more a b : List Int} {pc : Option Addr} {qc : Nat} {pm : Option Addr} {qm : Nat} {wr : World} {a7 a8 : Nat} {p14 p16 p18 p20 : Option Addr} {q14 q16 q18 q20 n18 : Nat} {x2 x3 x4 x5 x9 x10 x11 x12 x13 x15 x17 x19 x21 x22 x23 x24 x25 x26 x27 x28 x29 x30 x31 x32 x33 x34 x35 x36 x37 x38 x39 x40 x41 x42 x43 x44 x45 x46 x47 x48 x49 x50 x51 x52 x53 x54 x55 x56 x57 x58 x59 x60 x61 x62 x63 x64 x65 x66 x67 x68 x69 x70 x71 x72 x73 x74 x75 x76 x77 x78 x79 x80 x81 x82 x83 x84 x85 x86 x87 x88 x89 x90 x91 x92 x93 x94 x95 x96 x97 x98 x99 x100 x101 x102 x103 x104 x105 x106 x107 x108 x109 x110 x111 x112 x113 x114 x115 x116 x117 x118 x119 x120 x121 x122 x123 x124 x125 x126 x127 x128 x129 x130 x131 x132 x133 x134 x135 x136 x137 x138 x139 x140 x141 x142 x143 x144 x145 x146 x147 x148 x149 x150 x151 x152 x153 x154 x155 x156 x157 x158 x159 x160 x161 x162 x163 x164 x165 x166 x167 x168 x169 x170 x171 x172 x173 x174 x175 x176 x177 x178 x179 x180 x181 x182 x183 x184 x185 x186 x187 x188 x189 x190 x191 x192 x193 x194 x195 x196 x197 x198 x199 x200 x201 x202 x203 x204 x205 x206 x207 x208 x209 x210 x211 x212 x213 x214 x215 x216 x217 x218 x219 x220 x221 x222 x223 x224 x225 x226 x227 x228 x229 x230 x231 x232 x233 x234 x235 x236 x237 x238 x239 x240 x241 x242 x243 x244 x245 x246 x247 x248 x249 x250 x251 x252 x253 x254 x255 x256 x257 x258 x259 x260 x261 x262 x263 x264 x265 x266 x267 x268 x269 x270 x271 x272 x273 x274 x275 x276 x277 x278 x279 x280 x281 x282 x283 x284 x285 x286 x287 x288 x289 x290 x291 x292 x293 x294 x295 x296 x297 x298 x299 x300 x301 x302 x303 x304 x305 x306 x307 x308 x309 x310 x311 x312 x313 x314 x315 x316 x317 x318 x319 x320 x321 x322 x323 x324 x325 x326 x327 x328 x329 x330 x331 x332 x333 x334 x335 x336 x337 x338 x339 x340 x341 x342 x343 x344 x345 x346 x347 x348 x349 x350 x351 x352 x353 x354 x355 x356 x357 x358 x359 x360 x361 x362 x363 x364 x365 x366 x367 x368 x369 x370 x371 x372 x373 x374 x375 x376 x377 x378 x379 x380 x381 x382 x383 x384 x385 x386 x387 x388 x389 x390 x391 x392 x393 x394 x395 x396 x397 x398 x399 x400 x401 x402 x403 x404 x405 x406 x407 x408 x409 x410 x411 x412 x413 x414 x415 : Value}, OK w M code more a b pc qc pm qm → Below w.heap.size w wr → BxW wr a7 a → BxW wr a8 b → n18 = cx M a M → RdWs wr (.slice p14 (facL (M : Int) a).length q14) (facL (M : Int) a) → RdWs wr (.slice p16 (facL (M : Int) a).length q16) (facL (M : Int) a) → RdSS wr (.slice p20 2 q20) [(facL (M : Int) a), facL (M : Int) b] → (dropC 14 fnOverCode).wp Try.prog (bodyPost Try.prog Try.f12 (RB true w)) ⟨List.toArray (.slice pc code.length qc :: .slice pm more.length qm :: x2 :: x3 :: x4 :: x5 :: .int .i64 M :: .pointer (some ⟨a7, 0, none⟩) :: .pointer (some ⟨a8, 0, none⟩) :: x9 :: x10 :: x11 :: x12 :: x13 :: .slice p14 (facL (M : Int) a).length q14 :: x15 :: .slice p16 (facL (M : Int) a).length q16 :: x17 :: .slice p18 n18 q18 :: x19 :: .slice p20 2 q20 :: x21 :: x22 :: x23 :: x24 :: x25 :: x26 :: x27 :: x28 :: x29 :: x30 :: x31 :: x32 :: x33 :: x34 :: x35 :: x36 :: x37 :: x38 :: x39 :: x40 :: x41 :: x42 :: x43 :: x44 :: x45 :: x46 :: x47 :: x48 :: x49 :: x50 :: x51 :: x52 :: x53 :: x54 :: x55 :: x56 :: x57 :: x58 :: x59 :: x60 :: x61 :: x62 :: x63 :: x64 :: x65 :: x66 :: x67 :: x68 :: x69 :: x70 :: x71 :: x72 :: x73 :: x74 :: x75 :: x76 :: x77 :: x78 :: x79 :: x80 :: x81 :: x82 :: x83 :: x84 :: x85 :: x86 :: x87 :: x88 :: x89 :: x90 :: x91 :: x92 :: x93 :: x94 :: x95 :: x96 :: x97 :: x98 :: x99 :: x100 :: x101 :: x102 :: x103 :: x104 :: x105 :: x106 :: x107 :: x108 :: x109 :: x110 :: x111 :: x112 :: x113 :: x114 :: x115 :: x116 :: x117 :: x118 :: x119 :: x120 :: x121 :: x122 :: x123 :: x124 :: x125 :: x126 :: x127 :: x128 :: x129 :: x130 :: x131 :: x132 :: x133 :: x134 :: x135 :: x136 :: x137 :: x138 :: x139 :: x140 :: x141 :: x142 :: x143 :: x144 :: x145 :: x146 :: x147 :: x148 :: x149 :: x150 :: x151 :: x152 :: x153 :: x154 :: x155 :: x156 :: x157 :: x158 :: x159 :: x160 :: x161 :: x162 :: x163 :: x164 :: x165 :: x166 :: x167 :: x168 :: x169 :: x170 :: x171 :: x172 :: x173 :: x174 :: x175 :: x176 :: x177 :: x178 :: x179 :: x180 :: x181 :: x182 :: x183 :: x184 :: x185 :: x186 :: x187 :: x188 :: x189 :: x190 :: x191 :: x192 :: x193 :: x194 :: x195 :: x196 :: x197 :: x198 :: x199 :: x200 :: x201 :: x202 :: x203 :: x204 :: x205 :: x206 :: x207 :: x208 :: x209 :: x210 :: x211 :: x212 :: x213 :: x214 :: x215 :: x216 :: x217 :: x218 :: x219 :: x220 :: x221 :: x222 :: x223 :: x224 :: x225 :: x226 :: x227 :: x228 :: x229 :: x230 :: x231 :: x232 :: x233 :: x234 :: x235 :: x236 :: x237 :: x238 :: x239 :: x240 :: x241 :: x242 :: x243 :: x244 :: x245 :: x246 :: x247 :: x248 :: x249 :: x250 :: x251 :: x252 :: x253 :: x254 :: x255 :: x256 :: x257 :: x258 :: x259 :: x260 :: x261 :: x262 :: x263 :: x264 :: x265 :: x266 :: x267 :: x268 :: x269 :: x270 :: x271 :: x272 :: x273 :: x274 :: x275 :: x276 :: x277 :: x278 :: x279 :: x280 :: x281 :: x282 :: x283 :: x284 :: x285 :: x286 :: x287 :: x288 :: x289 :: x290 :: x291 :: x292 :: x293 :: x294 :: x295 :: x296 :: x297 :: x298 :: x299 :: x300 :: x301 :: x302 :: x303 :: x304 :: x305 :: x306 :: x307 :: x308 :: x309 :: x310 :: x311 :: x312 :: x313 :: x314 :: x315 :: x316 :: x317 :: x318 :: x319 :: x320 :: x321 :: x322 :: x323 :: x324 :: x325 :: x326 :: x327 :: x328 :: x329 :: x330 :: x331 :: x332 :: x333 :: x334 :: x335 :: x336 :: x337 :: x338 :: x339 :: x340 :: x341 :: x342 :: x343 :: x344 :: x345 :: x346 :: x347 :: x348 :: x349 :: x350 :: x351 :: x352 :: x353 :: x354 :: x355 :: x356 :: x357 :: x358 :: x359 :: x360 :: x361 :: x362 :: x363 :: x364 :: x365 :: x366 :: x367 :: x368 :: x369 :: x370 :: x371 :: x372 :: x373 :: x374 :: x375 :: x376 :: x377 :: x378 :: x379 :: x380 :: x381 :: x382 :: x383 :: x384 :: x385 :: x386 :: x387 :: x388 :: x389 :: x390 :: x391 :: x392 :: x393 :: x394 :: x395 :: x396 :: x397 :: x398 :: x399 :: x400 :: x401 :: x402 :: x403 :: x404 :: x405 :: x406 :: x407 :: x408 :: x409 :: x410 :: x411 :: x412 :: x413 :: x414 :: x415 :: []), []⟩ wr

set_option maxRecDepth 1000000 in
/-- What follows from statement 16 on. -/
def OT16 : Prop := ∀ {w : World} {M : Nat} {code more a b : List Int} {pc : Option Addr} {qc : Nat} {pm : Option Addr} {qm : Nat} {wr : World} {a7 a8 : Nat} {p14 p16 p18 p20 : Option Addr} {q14 q16 q18 q20 n18 : Nat} {a24 p24 q24 : Nat} {Wb : World} {x2 x3 x4 x5 x9 x10 x11 x12 x13 x15 x17 x19 x21 x22 x23 x26 x27 x28 x29 x30 x31 x32 x33 x34 x35 x36 x37 x38 x39 x40 x41 x42 x43 x44 x45 x46 x47 x48 x49 x50 x51 x52 x53 x54 x55 x56 x57 x58 x59 x60 x61 x62 x63 x64 x65 x66 x67 x68 x69 x70 x71 x72 x73 x74 x75 x76 x77 x78 x79 x80 x81 x82 x83 x84 x85 x86 x87 x88 x89 x90 x91 x92 x93 x94 x95 x96 x97 x98 x99 x100 x101 x102 x103 x104 x105 x106 x107 x108 x109 x110 x111 x112 x113 x114 x115 x116 x117 x118 x119 x120 x121 x122 x123 x124 x125 x126 x127 x128 x129 x130 x131 x132 x133 x134 x135 x136 x137 x138 x139 x140 x141 x142 x143 x144 x145 x146 x147 x148 x149 x150 x151 x152 x153 x154 x155 x156 x157 x158 x159 x160 x161 x162 x163 x164 x165 x166 x167 x168 x169 x170 x171 x172 x173 x174 x175 x176 x177 x178 x179 x180 x181 x182 x183 x184 x185 x186 x187 x188 x189 x190 x191 x192 x193 x194 x195 x196 x197 x198 x199 x200 x201 x202 x203 x204 x205 x206 x207 x208 x209 x210 x211 x212 x213 x214 x215 x216 x217 x218 x219 x220 x221 x222 x223 x224 x225 x226 x227 x228 x229 x230 x231 x232 x233 x234 x235 x236 x237 x238 x239 x240 x241 x242 x243 x244 x245 x246 x247 x248 x249 x250 x251 x252 x253 x254 x255 x256 x257 x258 x259 x260 x261 x262 x263 x264 x265 x266 x267 x268 x269 x270 x271 x272 x273 x274 x275 x276 x277 x278 x279 x280 x281 x282 x283 x284 x285 x286 x287 x288 x289 x290 x291 x292 x293 x294 x295 x296 x297 x298 x299 x300 x301 x302 x303 x304 x305 x306 x307 x308 x309 x310 x311 x312 x313 x314 x315 x316 x317 x318 x319 x320 x321 x322 x323 x324 x325 x326 x327 x328 x329 x330 x331 x332 x333 x334 x335 x336 x337 x338 x339 x340 x341 x342 x343 x344 x345 x346 x347 x348 x349 x350 x351 x352 x353 x354 x355 x356 x357 x358 x359 x360 x361 x362 x363 x364 x365 x366 x367 x368 x369 x370 x371 x372 x373 x374 x375 x376 x377 x378 x379 x380 x381 x382 x383 x384 x385 x386 x387 x388 x389 x390 x391 x392 x393 x394 x395 x396 x397 x398 x399 x400 x401 x402 x403 x404 x405 x406 x407 x408 x409 x410 x411 x412 x413 x414 x415 : Value}, OK w M code more a b pc qc pm qm → Below w.heap.size w Wb → BxW Wb a7 a → BxW Wb a8 b → n18 = cx M a M → RdWs Wb (.slice p14 (facL (M : Int) a).length q14) (facL (M : Int) a) → RdWs Wb (.slice p16 (facL (M : Int) a).length q16) (facL (M : Int) a) → RdSS Wb (.slice p20 2 q20) [(facL (M : Int) a), facL (M : Int) b] → Below Wb.heap.size Wb wr → Wb.heap.size ≤ p24 → p24 < a24 → wr.cell? ⟨a24, 0, none⟩ = some (.slice (some ⟨p24, 0, none⟩) 1 q24) → wr.frozen? ⟨a24, 0, none⟩ = false → RdI wr (.slice (some ⟨p24, 0, none⟩) 1 q24) [lastZ a] → (dropC 16 fnOverCode).wp Try.prog (bodyPost Try.prog Try.f12 (RB true w)) ⟨List.toArray (.slice pc code.length qc :: .slice pm more.length qm :: x2 :: x3 :: x4 :: x5 :: .int .i64 M :: .pointer (some ⟨a7, 0, none⟩) :: .pointer (some ⟨a8, 0, none⟩) :: x9 :: x10 :: x11 :: x12 :: x13 :: .slice p14 (facL (M : Int) a).length q14 :: x15 :: .slice p16 (facL (M : Int) a).length q16 :: x17 :: .slice p18 n18 q18 :: x19 :: .slice p20 2 q20 :: x21 :: x22 :: x23 :: .pointer (some ⟨a24, 0, none⟩) :: .int .i64 0 :: x26 :: x27 :: x28 :: x29 :: x30 :: x31 :: x32 :: x33 :: x34 :: x35 :: x36 :: x37 :: x38 :: x39 :: x40 :: x41 :: x42 :: x43 :: x44 :: x45 :: x46 :: x47 :: x48 :: x49 :: x50 :: x51 :: x52 :: x53 :: x54 :: x55 :: x56 :: x57 :: x58 :: x59 :: x60 :: x61 :: x62 :: x63 :: x64 :: x65 :: x66 :: x67 :: x68 :: x69 :: x70 :: x71 :: x72 :: x73 :: x74 :: x75 :: x76 :: x77 :: x78 :: x79 :: x80 :: x81 :: x82 :: x83 :: x84 :: x85 :: x86 :: x87 :: x88 :: x89 :: x90 :: x91 :: x92 :: x93 :: x94 :: x95 :: x96 :: x97 :: x98 :: x99 :: x100 :: x101 :: x102 :: x103 :: x104 :: x105 :: x106 :: x107 :: x108 :: x109 :: x110 :: x111 :: x112 :: x113 :: x114 :: x115 :: x116 :: x117 :: x118 :: x119 :: x120 :: x121 :: x122 :: x123 :: x124 :: x125 :: x126 :: x127 :: x128 :: x129 :: x130 :: x131 :: x132 :: x133 :: x134 :: x135 :: x136 :: x137 :: x138 :: x139 :: x140 :: x141 :: x142 :: x143 :: x144 :: x145 :: x146 :: x147 :: x148 :: x149 :: x150 :: x151 :: x152 :: x153 :: x154 :: x155 :: x156 :: x157 :: x158 :: x159 :: x160 :: x161 :: x162 :: x163 :: x164 :: x165 :: x166 :: x167 :: x168 :: x169 :: x170 :: x171 :: x172 :: x173 :: x174 :: x175 :: x176 :: x177 :: x178 :: x179 :: x180 :: x181 :: x182 :: x183 :: x184 :: x185 :: x186 :: x187 :: x188 :: x189 :: x190 :: x191 :: x192 :: x193 :: x194 :: x195 :: x196 :: x197 :: x198 :: x199 :: x200 :: x201 :: x202 :: x203 :: x204 :: x205 :: x206 :: x207 :: x208 :: x209 :: x210 :: x211 :: x212 :: x213 :: x214 :: x215 :: x216 :: x217 :: x218 :: x219 :: x220 :: x221 :: x222 :: x223 :: x224 :: x225 :: x226 :: x227 :: x228 :: x229 :: x230 :: x231 :: x232 :: x233 :: x234 :: x235 :: x236 :: x237 :: x238 :: x239 :: x240 :: x241 :: x242 :: x243 :: x244 :: x245 :: x246 :: x247 :: x248 :: x249 :: x250 :: x251 :: x252 :: x253 :: x254 :: x255 :: x256 :: x257 :: x258 :: x259 :: x260 :: x261 :: x262 :: x263 :: x264 :: x265 :: x266 :: x267 :: x268 :: x269 :: x270 :: x271 :: x272 :: x273 :: x274 :: x275 :: x276 :: x277 :: x278 :: x279 :: x280 :: x281 :: x282 :: x283 :: x284 :: x285 :: x286 :: x287 :: x288 :: x289 :: x290 :: x291 :: x292 :: x293 :: x294 :: x295 :: x296 :: x297 :: x298 :: x299 :: x300 :: x301 :: x302 :: x303 :: x304 :: x305 :: x306 :: x307 :: x308 :: x309 :: x310 :: x311 :: x312 :: x313 :: x314 :: x315 :: x316 :: x317 :: x318 :: x319 :: x320 :: x321 :: x322 :: x323 :: x324 :: x325 :: x326 :: x327 :: x328 :: x329 :: x330 :: x331 :: x332 :: x333 :: x334 :: x335 :: x336 :: x337 :: x338 :: x339 :: x340 :: x341 :: x342 :: x343 :: x344 :: x345 :: x346 :: x347 :: x348 :: x349 :: x350 :: x351 :: x352 :: x353 :: x354 :: x355 :: x356 :: x357 :: x358 :: x359 :: x360 :: x361 :: x362 :: x363 :: x364 :: x365 :: x366 :: x367 :: x368 :: x369 :: x370 :: x371 :: x372 :: x373 :: x374 :: x375 :: x376 :: x377 :: x378 :: x379 :: x380 :: x381 :: x382 :: x383 :: x384 :: x385 :: x386 :: x387 :: x388 :: x389 :: x390 :: x391 :: x392 :: x393 :: x394 :: x395 :: x396 :: x397 :: x398 :: x399 :: x400 :: x401 :: x402 :: x403 :: x404 :: x405 :: x406 :: x407 :: x408 :: x409 :: x410 :: x411 :: x412 :: x413 :: x414 :: x415 :: []), []⟩ wr

set_option maxRecDepth 1000000 in
/-- What follows from statement 17 on. -/
def OT17 : Prop := ∀ {w : World} {M : Nat} {code more a b : List Int} {pc : Option Addr} {qc : Nat} {pm : Option Addr} {qm : Nat} {wr : World} {a7 a8 : Nat} {a24 n18 q18 : Nat} {p18 : Option Addr} {x2 x3 x4 x5 x9 x10 x11 x12 x13 x14 x15 x16 x17 x19 x20 x21 x22 x23 x26 x27 x28 x29 x30 x31 x32 x33 x34 x35 x36 x37 x38 x39 x40 x41 x42 x43 x44 x45 x46 x47 x48 x49 x50 x51 x52 x53 x54 x55 x56 x57 x58 x59 x60 x61 x62 x63 x64 x65 x66 x67 x68 x69 x70 x71 x72 x73 x74 x75 x76 x77 x78 x79 x80 x81 x82 x83 x84 x85 x86 x87 x88 x89 x90 x91 x92 x93 x94 x95 x96 x97 x98 x99 x100 x101 x102 x103 x104 x105 x106 x107 x108 x109 x110 x111 x112 x113 x114 x115 x116 x117 x118 x119 x120 x121 x122 x123 x124 x125 x126 x127 x128 x129 x130 x131 x132 x133 x134 x135 x136 x137 x138 x139 x140 x141 x142 x143 x144 x145 x146 x147 x148 x149 x150 x151 x152 x153 x154 x155 x156 x157 x158 x159 x160 x161 x162 x163 x164 x165 x166 x167 x168 x169 x170 x171 x172 x173 x174 x175 x176 x177 x178 x179 x180 x181 x182 x183 x184 x185 x186 x187 x188 x189 x190 x191 x192 x193 x194 x195 x196 x197 x198 x199 x200 x201 x202 x203 x204 x205 x206 x207 x208 x209 x210 x211 x212 x213 x214 x215 x216 x217 x218 x219 x220 x221 x222 x223 x224 x225 x226 x227 x228 x229 x230 x231 x232 x233 x234 x235 x236 x237 x238 x239 x240 x241 x242 x243 x244 x245 x246 x247 x248 x249 x250 x251 x252 x253 x254 x255 x256 x257 x258 x259 x260 x261 x262 x263 x264 x265 x266 x267 x268 x269 x270 x271 x272 x273 x274 x275 x276 x277 x278 x279 x280 x281 x282 x283 x284 x285 x286 x287 x288 x289 x290 x291 x292 x293 x294 x295 x296 x297 x298 x299 x300 x301 x302 x303 x304 x305 x306 x307 x308 x309 x310 x311 x312 x313 x314 x315 x316 x317 x318 x319 x320 x321 x322 x323 x324 x325 x326 x327 x328 x329 x330 x331 x332 x333 x334 x335 x336 x337 x338 x339 x340 x341 x342 x343 x344 x345 x346 x347 x348 x349 x350 x351 x352 x353 x354 x355 x356 x357 x358 x359 x360 x361 x362 x363 x364 x365 x366 x367 x368 x369 x370 x371 x372 x373 x374 x375 x376 x377 x378 x379 x380 x381 x382 x383 x384 x385 x386 x387 x388 x389 x390 x391 x392 x393 x394 x395 x396 x397 x398 x399 x400 x401 x402 x403 x404 x405 x406 x407 x408 x409 x410 x411 x412 x413 x414 x415 : Value}, OK w M code more a b pc qc pm qm → Below w.heap.size w wr → BxW wr a7 a → BxW wr a8 b → BxW wr a24 a → (dropC 17 fnOverCode).wp Try.prog (bodyPost Try.prog Try.f12 (RB true w)) ⟨List.toArray (.slice pc code.length qc :: .slice pm more.length qm :: x2 :: x3 :: x4 :: x5 :: .int .i64 M :: .pointer (some ⟨a7, 0, none⟩) :: .pointer (some ⟨a8, 0, none⟩) :: x9 :: x10 :: x11 :: x12 :: x13 :: x14 :: x15 :: x16 :: x17 :: .slice p18 n18 q18 :: x19 :: x20 :: x21 :: x22 :: x23 :: .pointer (some ⟨a24, 0, none⟩) :: .int .i64 n18 :: x26 :: x27 :: x28 :: x29 :: x30 :: x31 :: x32 :: x33 :: x34 :: x35 :: x36 :: x37 :: x38 :: x39 :: x40 :: x41 :: x42 :: x43 :: x44 :: x45 :: x46 :: x47 :: x48 :: x49 :: x50 :: x51 :: x52 :: x53 :: x54 :: x55 :: x56 :: x57 :: x58 :: x59 :: x60 :: x61 :: x62 :: x63 :: x64 :: x65 :: x66 :: x67 :: x68 :: x69 :: x70 :: x71 :: x72 :: x73 :: x74 :: x75 :: x76 :: x77 :: x78 :: x79 :: x80 :: x81 :: x82 :: x83 :: x84 :: x85 :: x86 :: x87 :: x88 :: x89 :: x90 :: x91 :: x92 :: x93 :: x94 :: x95 :: x96 :: x97 :: x98 :: x99 :: x100 :: x101 :: x102 :: x103 :: x104 :: x105 :: x106 :: x107 :: x108 :: x109 :: x110 :: x111 :: x112 :: x113 :: x114 :: x115 :: x116 :: x117 :: x118 :: x119 :: x120 :: x121 :: x122 :: x123 :: x124 :: x125 :: x126 :: x127 :: x128 :: x129 :: x130 :: x131 :: x132 :: x133 :: x134 :: x135 :: x136 :: x137 :: x138 :: x139 :: x140 :: x141 :: x142 :: x143 :: x144 :: x145 :: x146 :: x147 :: x148 :: x149 :: x150 :: x151 :: x152 :: x153 :: x154 :: x155 :: x156 :: x157 :: x158 :: x159 :: x160 :: x161 :: x162 :: x163 :: x164 :: x165 :: x166 :: x167 :: x168 :: x169 :: x170 :: x171 :: x172 :: x173 :: x174 :: x175 :: x176 :: x177 :: x178 :: x179 :: x180 :: x181 :: x182 :: x183 :: x184 :: x185 :: x186 :: x187 :: x188 :: x189 :: x190 :: x191 :: x192 :: x193 :: x194 :: x195 :: x196 :: x197 :: x198 :: x199 :: x200 :: x201 :: x202 :: x203 :: x204 :: x205 :: x206 :: x207 :: x208 :: x209 :: x210 :: x211 :: x212 :: x213 :: x214 :: x215 :: x216 :: x217 :: x218 :: x219 :: x220 :: x221 :: x222 :: x223 :: x224 :: x225 :: x226 :: x227 :: x228 :: x229 :: x230 :: x231 :: x232 :: x233 :: x234 :: x235 :: x236 :: x237 :: x238 :: x239 :: x240 :: x241 :: x242 :: x243 :: x244 :: x245 :: x246 :: x247 :: x248 :: x249 :: x250 :: x251 :: x252 :: x253 :: x254 :: x255 :: x256 :: x257 :: x258 :: x259 :: x260 :: x261 :: x262 :: x263 :: x264 :: x265 :: x266 :: x267 :: x268 :: x269 :: x270 :: x271 :: x272 :: x273 :: x274 :: x275 :: x276 :: x277 :: x278 :: x279 :: x280 :: x281 :: x282 :: x283 :: x284 :: x285 :: x286 :: x287 :: x288 :: x289 :: x290 :: x291 :: x292 :: x293 :: x294 :: x295 :: x296 :: x297 :: x298 :: x299 :: x300 :: x301 :: x302 :: x303 :: x304 :: x305 :: x306 :: x307 :: x308 :: x309 :: x310 :: x311 :: x312 :: x313 :: x314 :: x315 :: x316 :: x317 :: x318 :: x319 :: x320 :: x321 :: x322 :: x323 :: x324 :: x325 :: x326 :: x327 :: x328 :: x329 :: x330 :: x331 :: x332 :: x333 :: x334 :: x335 :: x336 :: x337 :: x338 :: x339 :: x340 :: x341 :: x342 :: x343 :: x344 :: x345 :: x346 :: x347 :: x348 :: x349 :: x350 :: x351 :: x352 :: x353 :: x354 :: x355 :: x356 :: x357 :: x358 :: x359 :: x360 :: x361 :: x362 :: x363 :: x364 :: x365 :: x366 :: x367 :: x368 :: x369 :: x370 :: x371 :: x372 :: x373 :: x374 :: x375 :: x376 :: x377 :: x378 :: x379 :: x380 :: x381 :: x382 :: x383 :: x384 :: x385 :: x386 :: x387 :: x388 :: x389 :: x390 :: x391 :: x392 :: x393 :: x394 :: x395 :: x396 :: x397 :: x398 :: x399 :: x400 :: x401 :: x402 :: x403 :: x404 :: x405 :: x406 :: x407 :: x408 :: x409 :: x410 :: x411 :: x412 :: x413 :: x414 :: x415 :: []), []⟩ wr

set_option maxRecDepth 1000000 in
/-- What follows from statement 18 on. -/
def OT18 : Prop := ∀ {w : World} {M : Nat} {code more a b : List Int} {pc : Option Addr} {qc : Nat} {pm : Option Addr} {qm : Nat} {wr : World} {a7 a8 : Nat} {x2 x3 x4 x5 x9 x10 x11 x12 x13 x14 x15 x16 x17 x18 x19 x20 x21 x22 x23 x24 x25 x26 x27 x28 x29 x30 x31 x32 x33 x34 x35 x36 x37 x38 x39 x40 x41 x42 x43 x44 x45 x46 x47 x48 x49 x50 x51 x52 x53 x54 x55 x56 x57 x58 x59 x60 x61 x62 x63 x64 x65 x66 x67 x68 x69 x70 x71 x72 x73 x74 x75 x76 x77 x78 x79 x80 x81 x82 x83 x84 x85 x86 x87 x88 x89 x90 x91 x92 x93 x94 x95 x96 x97 x98 x99 x100 x101 x102 x103 x104 x105 x106 x107 x108 x109 x110 x111 x112 x113 x114 x115 x116 x117 x118 x119 x120 x121 x122 x123 x124 x125 x126 x127 x128 x129 x130 x131 x132 x133 x134 x135 x136 x137 x138 x139 x140 x141 x142 x143 x144 x145 x146 x147 x148 x149 x150 x151 x152 x153 x154 x155 x156 x157 x158 x159 x160 x161 x162 x163 x164 x165 x166 x167 x168 x169 x170 x171 x172 x173 x174 x175 x176 x177 x178 x179 x180 x181 x182 x183 x184 x185 x186 x187 x188 x189 x190 x191 x192 x193 x194 x195 x196 x197 x198 x199 x200 x201 x202 x203 x204 x205 x206 x207 x208 x209 x210 x211 x212 x213 x214 x215 x216 x217 x218 x219 x220 x221 x222 x223 x224 x225 x226 x227 x228 x229 x230 x231 x232 x233 x234 x235 x236 x237 x238 x239 x240 x241 x242 x243 x244 x245 x246 x247 x248 x249 x250 x251 x252 x253 x254 x255 x256 x257 x258 x259 x260 x261 x262 x263 x264 x265 x266 x267 x268 x269 x270 x271 x272 x273 x274 x275 x276 x277 x278 x279 x280 x281 x282 x283 x284 x285 x286 x287 x288 x289 x290 x291 x292 x293 x294 x295 x296 x297 x298 x299 x300 x301 x302 x303 x304 x305 x306 x307 x308 x309 x310 x311 x312 x313 x314 x315 x316 x317 x318 x319 x320 x321 x322 x323 x324 x325 x326 x327 x328 x329 x330 x331 x332 x333 x334 x335 x336 x337 x338 x339 x340 x341 x342 x343 x344 x345 x346 x347 x348 x349 x350 x351 x352 x353 x354 x355 x356 x357 x358 x359 x360 x361 x362 x363 x364 x365 x366 x367 x368 x369 x370 x371 x372 x373 x374 x375 x376 x377 x378 x379 x380 x381 x382 x383 x384 x385 x386 x387 x388 x389 x390 x391 x392 x393 x394 x395 x396 x397 x398 x399 x400 x401 x402 x403 x404 x405 x406 x407 x408 x409 x410 x411 x412 x413 x414 x415 : Value}, OK w M code more a b pc qc pm qm → Below w.heap.size w wr → BxW wr a7 a → BxW wr a8 b → (dropC 18 fnOverCode).wp Try.prog (bodyPost Try.prog Try.f12 (RB true w)) ⟨List.toArray (.slice pc code.length qc :: .slice pm more.length qm :: x2 :: x3 :: x4 :: x5 :: .int .i64 M :: .pointer (some ⟨a7, 0, none⟩) :: .pointer (some ⟨a8, 0, none⟩) :: x9 :: x10 :: x11 :: x12 :: x13 :: x14 :: x15 :: x16 :: x17 :: x18 :: x19 :: x20 :: x21 :: x22 :: x23 :: x24 :: x25 :: x26 :: x27 :: x28 :: x29 :: x30 :: x31 :: x32 :: x33 :: x34 :: x35 :: x36 :: x37 :: x38 :: x39 :: x40 :: x41 :: x42 :: x43 :: x44 :: x45 :: x46 :: x47 :: x48 :: x49 :: x50 :: x51 :: x52 :: x53 :: x54 :: x55 :: x56 :: x57 :: x58 :: x59 :: x60 :: x61 :: x62 :: x63 :: x64 :: x65 :: x66 :: x67 :: x68 :: x69 :: x70 :: x71 :: x72 :: x73 :: x74 :: x75 :: x76 :: x77 :: x78 :: x79 :: x80 :: x81 :: x82 :: x83 :: x84 :: x85 :: x86 :: x87 :: x88 :: x89 :: x90 :: x91 :: x92 :: x93 :: x94 :: x95 :: x96 :: x97 :: x98 :: x99 :: x100 :: x101 :: x102 :: x103 :: x104 :: x105 :: x106 :: x107 :: x108 :: x109 :: x110 :: x111 :: x112 :: x113 :: x114 :: x115 :: x116 :: x117 :: x118 :: x119 :: x120 :: x121 :: x122 :: x123 :: x124 :: x125 :: x126 :: x127 :: x128 :: x129 :: x130 :: x131 :: x132 :: x133 :: x134 :: x135 :: x136 :: x137 :: x138 :: x139 :: x140 :: x141 :: x142 :: x143 :: x144 :: x145 :: x146 :: x147 :: x148 :: x149 :: x150 :: x151 :: x152 :: x153 :: x154 :: x155 :: x156 :: x157 :: x158 :: x159 :: x160 :: x161 :: x162 :: x163 :: x164 :: x165 :: x166 :: x167 :: x168 :: x169 :: x170 :: x171 :: x172 :: x173 :: x174 :: x175 :: x176 :: x177 :: x178 :: x179 :: x180 :: x181 :: x182 :: x183 :: x184 :: x185 :: x186 :: x187 :: x188 :: x189 :: x190 :: x191 :: x192 :: x193 :: x194 :: x195 :: x196 :: x197 :: x198 :: x199 :: x200 :: x201 :: x202 :: x203 :: x204 :: x205 :: x206 :: x207 :: x208 :: x209 :: x210 :: x211 :: x212 :: x213 :: x214 :: x215 :: x216 :: x217 :: x218 :: x219 :: x220 :: x221 :: x222 :: x223 :: x224 :: x225 :: x226 :: x227 :: x228 :: x229 :: x230 :: x231 :: x232 :: x233 :: x234 :: x235 :: x236 :: x237 :: x238 :: x239 :: x240 :: x241 :: x242 :: x243 :: x244 :: x245 :: x246 :: x247 :: x248 :: x249 :: x250 :: x251 :: x252 :: x253 :: x254 :: x255 :: x256 :: x257 :: x258 :: x259 :: x260 :: x261 :: x262 :: x263 :: x264 :: x265 :: x266 :: x267 :: x268 :: x269 :: x270 :: x271 :: x272 :: x273 :: x274 :: x275 :: x276 :: x277 :: x278 :: x279 :: x280 :: x281 :: x282 :: x283 :: x284 :: x285 :: x286 :: x287 :: x288 :: x289 :: x290 :: x291 :: x292 :: x293 :: x294 :: x295 :: x296 :: x297 :: x298 :: x299 :: x300 :: x301 :: x302 :: x303 :: x304 :: x305 :: x306 :: x307 :: x308 :: x309 :: x310 :: x311 :: x312 :: x313 :: x314 :: x315 :: x316 :: x317 :: x318 :: x319 :: x320 :: x321 :: x322 :: x323 :: x324 :: x325 :: x326 :: x327 :: x328 :: x329 :: x330 :: x331 :: x332 :: x333 :: x334 :: x335 :: x336 :: x337 :: x338 :: x339 :: x340 :: x341 :: x342 :: x343 :: x344 :: x345 :: x346 :: x347 :: x348 :: x349 :: x350 :: x351 :: x352 :: x353 :: x354 :: x355 :: x356 :: x357 :: x358 :: x359 :: x360 :: x361 :: x362 :: x363 :: x364 :: x365 :: x366 :: x367 :: x368 :: x369 :: x370 :: x371 :: x372 :: x373 :: x374 :: x375 :: x376 :: x377 :: x378 :: x379 :: x380 :: x381 :: x382 :: x383 :: x384 :: x385 :: x386 :: x387 :: x388 :: x389 :: x390 :: x391 :: x392 :: x393 :: x394 :: x395 :: x396 :: x397 :: x398 :: x399 :: x400 :: x401 :: x402 :: x403 :: x404 :: x405 :: x406 :: x407 :: x408 :: x409 :: x410 :: x411 :: x412 :: x413 :: x414 :: x415 :: []), []⟩ wr
end Go.Proofs.Ytlnjkjogedbhfaa
