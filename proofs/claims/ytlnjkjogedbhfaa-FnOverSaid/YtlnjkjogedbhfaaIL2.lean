/- The laws' helpers at lists of integers and at wholes. Conditions: lengths of at most 2^40. -/
import Derived.Test.YtlnjkjogedbhfaaIL1
import Derived.Deep.QuietTactic
import Derived.BigQuiet
namespace Go.Proofs.Ytlnjkjogedbhfaa
open Go Go.RowKit
set_option linter.unusedSimpArgs false
set_option linter.unusedVariables false

set_option maxRecDepth 100000 in
set_option maxHeartbeats 400000 in
theorem eq_ints (va vb : Value) (zs : List Int) (w : World) (ha : RdI w va zs) (hb : RdI w vb zs) (hl : zs.length ≤ 1099511627776) : Calls Try.prog 106 #[va, vb] w fun e w' => ∃ m, e = .returned (.bool true) ∧ w' = w.drewN m := by
  by_cases h0 : zs = []
  · subst h0
    obtain ⟨ao, cap, rfl⟩ := ha.shape
    obtain ⟨bo, cap2, rfl⟩ := hb.shape
    clear ha hb
    go_enter Try.func106, Try.ntmps106
    go_wp2
    refine wp_loop_rounds 1 ?_
    rw [rounds_succ]
    go_wp2
    go_ret
    exact ⟨0, rfl, rfl⟩
  · obtain ⟨b, off, cap, rfl, _, hc⟩ := ha.open h0
    obtain ⟨b', off', cap', rfl, _, hc'⟩ := hb.open h0
    have Hc := Lib.hid hc
    have Hc' := Lib.hid hc'
    clear hc hc' ha hb
    go_enter Try.func106, Try.ntmps106
    go_wp2
    go_loopw [5] (fun i wr => ∃ k m : Nat, k ≤ zs.length ∧ i = .int .i64 k ∧ wr = w.drewN m) (fun i _ => zs.length - (intOf i).toNat)
    case atStart => exact ⟨0, 0, Nat.zero_le _, rfl, rfl⟩
    case round =>
      obtain ⟨k, m, hk, rfl, rfl⟩ := hrel
      by_cases hlt : k < zs.length
      · have c1 := Hc.out k hlt
        have c2 := Hc'.out k hlt
        generalize zs.getD k 0 = z at *
        go_wp2
        go_quiet (fail)
        go_wp2
        go_roundw
        case rel => exact ⟨k + 1, _, by omega, by go_num, rfl⟩
        case measure => simp [intOf]; omega
      · obtain rfl : k = zs.length := by omega
        go_wp2
        go_ret
        exact ⟨m, rfl, rfl⟩

theorem drewN_below (w : World) : ∀ m, Below w.heap.size w (w.drewN m) := fun m => ⟨rfl, rfl, rfl, Nat.le_refl _, fun _ _ => rfl⟩
set_option maxRecDepth 100000 in
theorem eq_whole (va vb : Value) (zs : List Int) (w : World) (ha : RdI w va zs) (hb : RdI w vb zs) (hl : zs.length ≤ 1099511627776) : Calls Try.prog 35 #[.agg #[va], .agg #[vb]] w fun e w' => e = .returned (.bool true) ∧ Below w.heap.size w w' := by
  have Ha := Lib.hid ha
  have Hb := Lib.hid hb
  obtain ⟨ao, cap, rfl⟩ := ha.shape
  obtain ⟨bo, cap2, rfl⟩ := hb.shape
  clear ha hb
  go_enter Try.func35, Try.ntmps35
  go_wp2_with fail
  (go_at_call 106; ((with_reducible refine (eq_ints _ _ zs _ ((Ha.out.alloc _).alloc _) ((Hb.out.alloc _).alloc _) hl).mono ?_); rintro e w' ⟨m, rfl, rfl⟩))
  go_wp2_with fail
  go_ret
  exact ⟨rfl, ((((Below.refl _ _).alloc (Nat.le_refl _) _).alloc (by simp) _).trans ((drewN_below _ m).mono (by simp; omega)))⟩

set_option maxRecDepth 100000 in
theorem to_whole (v : Value) (zs : List Int) (w : World) (hv : RdI w v zs) (hl : zs.length ≤ 1099511627776) : Calls Try.prog 33 #[.agg #[v]] w (RW zs w) := by
  have Hv := Lib.hid hv
  obtain ⟨ao, cap, rfl⟩ := hv.shape
  clear hv
  go_enter Try.func33, Try.ntmps33
  go_wp2_with fail
  (go_at_call 105; ((with_reducible refine (copy_ints _ zs _ (((Hv.out.alloc _).alloc _).alloc _) hl).mono ?_); rintro e w1 ⟨v1, rfl, ho1, hb1⟩))
  obtain ⟨ch, fh⟩ := bcell hb1
  have hz := hb1.size
  simp only [World.size_alloc] at hz
  have l0 : w.heap.size < w1.heap.size := by omega
  have l1 : w.heap.size + 1 < w1.heap.size := by omega
  have l2 : w.heap.size + 1 + 1 < w1.heap.size := by omega
  have Ho1 := Lib.hid ho1
  obtain ⟨ao1, c1, rfl⟩ := ho1.rd.shape
  clear ho1
  go_wp2_with fail
  (try simp only [Exit.inBlock, Exit.then]); refine bodyPost_ret (by simp [results, Try.results33, go_sem, *]; try rfl) rfl ?_
  exact ⟨_, rfl, OwI.mono (B := w.heap.size + 1 + 1 + 1) (OwI.setCell (OwI.setCell (by simpa using Ho1.out) (by show w.heap.size + 1 + 1 < _; omega) _) (by show w.heap.size + 1 < _; omega) _) (by omega), by (repeat' (first | (with_reducible exact Below.refl _ _) | (with_reducible assumption) | (with_reducible refine Below.alloc ?_ ?_ _) | (with_reducible refine Below.setCell ?_ ?_ _) | (with_reducible refine Below.drew ?_) | (with_reducible refine Below.via (by assumption) ?_ ?_) | go_size))⟩

/-- The marks: numbers from k on. -/
def marksZ (k : Int) (n : Nat) : List Int := buildZ (fun j => k + j) n
theorem marksZ_length (k : Int) (n : Nat) : (marksZ k n).length = n := buildZ_length _ _
theorem marksZ_get {k : Int} {n j : Nat} (h : j < n) : (marksZ k n).getD j 0 = k + j := by rw [marksZ, buildZ_get, if_pos h]
def MarkedZ (k : Int) (j : Nat) (ys : List Int) : Prop := ∀ i, i < j → ys.getD i 0 = k + i
theorem MarkedZ.set {k : Int} {j : Nat} {ys : List Int} (h : MarkedZ k j ys) (hj : j < ys.length) : MarkedZ k (j + 1) (ys.set j (k + j)) := fun i hi => by
  by_cases e : i = j
  · subst e; simp [List.getD, hj]
  · have := h i (by omega)
    simp only [List.getD] at this ⊢
    rw [List.getElem?_set_ne (by omega)]; exact this
theorem MarkedZ.all {k : Int} {ys : List Int} (h : MarkedZ k ys.length ys) : ys = marksZ k ys.length := by
  refine ext_getD (by rw [marksZ_length]) (fun i => ?_)
  by_cases hi : i < ys.length
  · rw [h i hi, marksZ_get hi]
  · rw [List.getD, List.getD, List.getElem?_eq_none (by omega), List.getElem?_eq_none (by rw [marksZ_length]; omega)]

def MarkI (lo hi : Nat) (v : Value) (n : Nat) (k : Int) (w : World) (e : Ending) (w' : World) : Prop :=
  e = .returned (.int .i64 (k + n)) ∧ OwI w' lo v (marksZ k n) ∧ Only lo hi w w'
set_option maxRecDepth 100000 in
set_option maxHeartbeats 400000 in
theorem mark_ints (v : Value) (zs : List Int) (lo hi : Nat) (k : Int) (w : World) (hv : OwR w lo hi v zs) (hl : zs.length ≤ 1099511627776) (k0 : 0 ≤ k) (k1 : k ≤ 1099511627776) : Calls Try.prog 107 #[v, .int .i64 k] w (MarkI lo hi v zs.length k w) := by
  by_cases h0 : zs = []
  · subst h0
    have Hv := Lib.hid hv
    obtain ⟨ao, cap, rfl⟩ := hv.rd.shape
    clear hv
    go_enter Try.func107, Try.ntmps107
    go_wp2
    refine wp_loop_rounds 1 ?_
    rw [rounds_succ]
    go_wp2
    go_ret
    exact ⟨by simp, Hv.out.1, Only.refl _ _ _⟩
  · obtain ⟨g, cap, rfl, hg, hgs, _⟩ := hv.1.open h0
    have hgh := hv.2 _ _ _ rfl
    simp only at hgh
    have Hv := Lib.hid hv
    clear hv
    go_enter Try.func107, Try.ntmps107
    go_wp2
    go_loopw [1, 5] (fun q i wr => ∃ (j : Nat) (ys : List Int), j ≤ zs.length ∧ i = .int .i64 j ∧ q = .int .i64 (k + j) ∧ ys.length = zs.length ∧ OwI wr lo (.slice (some ⟨g, 0, none⟩) zs.length cap) ys ∧ MarkedZ k j ys ∧ Only lo hi w wr) (fun _ i _ => zs.length - (intOf i).toNat)
    case atStart => exact ⟨0, zs, Nat.zero_le _, rfl, by simp, rfl, Hv.out.1, fun i hi => absurd hi (by omega), Only.refl _ _ _⟩
    case round =>
      obtain ⟨j, ys, hj, rfl, rfl, hyl, how, hm, hon⟩ := hrel
      by_cases hlt : j < zs.length
      · have hc := how.cellF (j := j) (by omega)
        obtain ⟨c1, c2⟩ := hc
        have H2 := Lib.hid (how.set j (k + j))
        have H3 := Lib.hid (hm.set (by omega))
        have Hyl := Lib.hid hyl
        generalize ys.getD j 0 = old at *
        clear hm how hyl
        go_wp2
        go_roundw
        case rel => exact ⟨j + 1, _, by omega, by go_num, by go_num, by rw [List.length_set]; exact Hyl.out, H2.out, H3.out, hon.setCell hg hgh _⟩
        case measure => simp [intOf]; omega
      · obtain rfl : j = zs.length := by omega
        have hm2 : ys = marksZ k zs.length := by rw [← hyl] at hm ⊢; exact hm.all
        have How := Lib.hid how
        have Hm2 := Lib.hid hm2
        clear how hm hyl hm2
        go_wp2
        go_ret
        exact ⟨rfl, by rw [← Hm2.out]; exact How.out, hon⟩

set_option maxRecDepth 100000 in
set_option maxHeartbeats 400000 in
theorem held_ints (v : Value) (n : Nat) (k : Int) (w : World) (hv : RdI w v (marksZ k n)) (hl : n ≤ 1099511627776) (k0 : 0 ≤ k) (k1 : k ≤ 1099511627776) : Calls Try.prog 108 #[v, .int .i64 k] w fun e w' => e = .returned (.int .i64 (k + n)) ∧ w = w' := by
  by_cases h0 : n = 0
  · subst h0
    have Hv := Lib.hid hv
    obtain ⟨ao, cap, hs⟩ := hv.shape
    rw [marksZ_length] at hs
    subst hs
    clear hv
    go_enter Try.func108, Try.ntmps108
    go_wp2
    refine wp_loop_rounds 1 ?_
    rw [rounds_succ]
    go_wp2
    go_ret
    exact ⟨by simp, rfl⟩
  · obtain ⟨b, off, cap, hs, hbs, hc⟩ := hv.open (by intro h; have := congrArg List.length h; rw [marksZ_length] at this; simp at this; omega)
    rw [marksZ_length] at hs
    subst hs
    have Hc := Lib.hid (fun j (hj : j < n) => (hc j (by rw [marksZ_length]; exact hj)).trans (by rw [marksZ_get hj]))
    clear hc hv
    go_enter Try.func108, Try.ntmps108
    go_wp2
    go_loop [1, 5] (fun q i => ∃ j : Nat, j ≤ n ∧ i = .int .i64 j ∧ q = .int .i64 (k + j)) (fun _ i => n - (intOf i).toNat)
    case atStart => exact ⟨0, Nat.zero_le _, rfl, by simp⟩
    case round =>
      obtain ⟨j, hj, rfl, rfl⟩ := hrel
      by_cases hlt : j < n
      · have c1 := Hc.out j hlt
        go_wp2
        go_round
        case rel => exact ⟨j + 1, by omega, by go_num, by go_num⟩
        case measure => simp [intOf]; omega
      · obtain rfl : j = n := by omega
        go_wp2
        go_ret
        exact ⟨rfl, rfl⟩

set_option maxRecDepth 100000 in
theorem mark_whole (v : Value) (zs : List Int) (lo hi : Nat) (k : Int) (w : World) (hv : OwR w lo hi v zs) (hl : zs.length ≤ 1099511627776) (k0 : 0 ≤ k) (k1 : k ≤ 1099511627776) : Calls Try.prog 36 #[.agg #[v], .int .i64 k] w (MarkI lo hi v zs.length k w) := by
  have Hv := Lib.hid hv
  obtain ⟨ao, cap, rfl⟩ := hv.rd.shape
  clear hv
  go_enter Try.func36, Try.ntmps36
  go_wp2_with fail
  (go_at_call 107; ((with_reducible refine (mark_ints _ zs lo hi k _ (Hv.out.below (by (repeat' (first | (with_reducible exact Below.refl _ _) | (with_reducible assumption) | (with_reducible refine Below.alloc ?_ ?_ _) | (with_reducible refine Below.setCell ?_ ?_ _) | (with_reducible refine Below.drew ?_) | (with_reducible refine Below.via (by assumption) ?_ ?_) | go_size)))) hl k0 k1).mono ?_); rintro e w1 ⟨rfl, ho1, hb1⟩))
  go_wp2_with fail
  go_ret
  exact ⟨rfl, ho1, (Only.ofBelow ((Below.refl _ _).alloc (Nat.le_refl _) _)).trans hb1⟩

set_option maxRecDepth 100000 in
theorem held_whole (v : Value) (n : Nat) (k : Int) (w : World) (hv : RdI w v (marksZ k n)) (hl : n ≤ 1099511627776) (k0 : 0 ≤ k) (k1 : k ≤ 1099511627776) : Calls Try.prog 37 #[.agg #[v], .int .i64 k] w fun e w' => e = .returned (.int .i64 (k + n)) ∧ Below w.heap.size w w' := by
  have Hv := Lib.hid hv
  obtain ⟨ao, cap, rfl⟩ := hv.shape
  clear hv
  go_enter Try.func37, Try.ntmps37
  go_wp2_with fail
  (go_at_call 108; ((with_reducible refine (held_ints _ n k _ (Hv.out.alloc _) hl k0 k1).mono ?_); rintro e w1 ⟨rfl, rfl⟩))
  go_wp2_with fail
  go_ret
  exact ⟨rfl, by (repeat' (first | (with_reducible exact Below.refl _ _) | (with_reducible assumption) | (with_reducible refine Below.alloc ?_ ?_ _) | (with_reducible refine Below.setCell ?_ ?_ _) | (with_reducible refine Below.drew ?_) | (with_reducible refine Below.via (by assumption) ?_ ?_) | go_size))⟩

end Go.Proofs.Ytlnjkjogedbhfaa
