/- The laws' helpers at lists of integers. Conditions: lengths of at most 2^40. -/
import Derived.Test.YtlnjkjogedbhfaaI13
import Derived.Laws.OwnMore
namespace Go.Proofs.Ytlnjkjogedbhfaa
open Go Go.RowKit
set_option linter.unusedSimpArgs false
set_option linter.unusedVariables false

/-- Nothing but blocks from 'lo' on below 'hi' has turned. -/
structure Only (lo hi : Nat) (w w' : World) : Prop where
  os : w'.os = w.os
  tape : w'.tape = w.tape
  output : w'.output = w.output
  size : w.heap.size ≤ w'.heap.size
  block : ∀ k, k < w.heap.size → (k < lo ∨ hi ≤ k) → w'.heap[k]? = w.heap[k]?
theorem Only.refl (lo hi : Nat) (w : World) : Only lo hi w w := ⟨rfl, rfl, rfl, Nat.le_refl _, fun _ _ _ => rfl⟩
theorem Only.ofBelow {lo hi : Nat} {w w' : World} (h : Below w.heap.size w w') : Only lo hi w w' := ⟨h.os, h.tape, h.output, h.size, fun k hk _ => h.block k hk⟩
theorem Only.trans {lo hi : Nat} {a b c : World} (h : Only lo hi a b) (h2 : Only lo hi b c) : Only lo hi a c :=
  ⟨h2.os.trans h.os, h2.tape.trans h.tape, h2.output.trans h.output, Nat.le_trans h.size h2.size, fun k hk ho => (h2.block k (Nat.lt_of_lt_of_le hk h.size) ho).trans (h.block k hk ho)⟩
theorem Only.wide {lo hi lo2 hi2 : Nat} {w w' : World} (h : Only lo hi w w') (h1 : lo2 ≤ lo) (h2 : hi ≤ hi2) : Only lo2 hi2 w w' := ⟨h.os, h.tape, h.output, h.size, fun k hk ho => h.block k hk (by omega)⟩
theorem Only.toBelow {lo hi B : Nat} {w w' : World} (h : Only lo hi w w') (hB : B ≤ lo) (hs : B ≤ w.heap.size) : Below B w w' := ⟨h.os, h.tape, h.output, h.size, fun k hk => h.block k (by omega) (by omega)⟩
theorem Only.setCell {lo hi : Nat} {a w : World} (h : Only lo hi a w) {p : Addr} (h1 : lo ≤ p.block) (h2 : p.block < hi) (u : Value) : Only lo hi a (w.setCell p u) :=
  h.trans ⟨rfl, rfl, rfl, by simp [World.setCell], fun k _ hk => Below.heap_setCell _ _ _ _ (by omega)⟩
theorem Only.cell {lo hi : Nat} {w w' : World} (h : Only lo hi w w') {p : Addr} (hp : p.block < w.heap.size) (ho : p.block < lo ∨ hi ≤ p.block) : w'.cell? p = w.cell? p := World.cell?_of_block (w := w) (h.block p.block hp ho)

/-- A list of the call's own, whose block lies in a range. -/
def OwR (w : World) (lo hi : Nat) (v : Value) (zs : List Int) : Prop := OwI w lo v zs ∧ ∀ g n c, v = .slice (some g) n c → g.block < hi
theorem OwI.range {w : World} {lo : Nat} {v : Value} {zs : List Int} (h : OwI w lo v zs) : OwR w lo w.heap.size v zs := by
  refine ⟨h, fun p n c hv => ?_⟩
  rcases h with ⟨rfl, _⟩ | ⟨g, cap, cur, rfl, _, hg, _⟩
  · simp at hv
  · simp only [Value.slice.injEq, Option.some.injEq] at hv
    rw [← hv.1]
    exact (Array.getElem?_eq_some_iff.1 hg).1
theorem OwR.rd {w : World} {lo hi : Nat} {v : Value} {zs : List Int} (h : OwR w lo hi v zs) : RdI w v zs := h.1.rd
theorem OwR.only {w w' : World} {lo hi lo2 hi2 : Nat} {v : Value} {zs : List Int} (h : OwR w lo hi v zs) (ho : Only lo2 hi2 w w') (hd : hi ≤ lo2 ∨ hi2 ≤ lo) : OwR w' lo hi v zs := by
  refine ⟨?_, h.2⟩
  rcases h.1 with h1 | ⟨g, cap, cur, rfl, h2, h3, h4⟩
  · exact .inl h1
  · have h5 := h.2 _ _ _ rfl
    exact .inr ⟨g, cap, cur, rfl, h2, by rw [ho.block g (Array.getElem?_eq_some_iff.1 h3).1 (by simp only at h5; omega)]; exact h3, h4⟩
theorem OwR.below {w w' : World} {lo hi : Nat} {v : Value} {zs : List Int} (h : OwR w lo hi v zs) (hb : Below w.heap.size w w') : OwR w' lo hi v zs := ⟨h.1.below hb, h.2⟩

theorem OwI.set {w : World} {B g n cap : Nat} {zs : List Int} (h : OwI w B (.slice (some ⟨g, 0, none⟩) n cap) zs) (j : Nat) (y : Int) : OwI (w.setCell ⟨g, j, none⟩ (.int .i64 y)) B (.slice (some ⟨g, 0, none⟩) n cap) (zs.set j y) := by
  rcases h with ⟨h, _⟩ | ⟨g', cap', cur, hv, h2, hg, h3, h4, h5, ht⟩
  · simp at h
  · simp only [Value.slice.injEq, Option.some.injEq, Addr.mk.injEq, and_true, true_and] at hv
    obtain ⟨rfl, rfl, rfl⟩ := hv
    refine .inr ⟨g, cap, cur.setIfInBounds j (.int .i64 y), by rw [List.length_set], h2, heap_setCell_same w g j cur _ _ hg, by rw [List.length_set]; exact h3, by simpa using h4, by simpa using h5, ?_⟩
    rw [Array.toList_setIfInBounds, List.length_set, cellsI, List.map_set, ← cellsI, ← ht, List.take_set]
theorem OwI.cellF {w : World} {B g n cap : Nat} {zs : List Int} (h : OwI w B (.slice (some ⟨g, 0, none⟩) n cap) zs) {j : Nat} (hj : j < zs.length) : w.cell? ⟨g, j, none⟩ = some (.int .i64 (zs.getD j 0)) ∧ w.frozen? ⟨g, j, none⟩ = false := by
  rcases h with ⟨h, _⟩ | ⟨g', cap', cur, hv, h2, hg, h3, h4, h5, ht⟩
  · simp at h
  · simp only [Value.slice.injEq, Option.some.injEq, Addr.mk.injEq, and_true, true_and] at hv
    obtain ⟨rfl, rfl, rfl⟩ := hv
    refine ⟨?_, by simp [World.frozen?, hg]⟩
    rw [cell_of_row w g j cur _ (0, 0) hg]
    have := congrArg (·[j]?) ht
    simp only [List.getElem?_take, if_pos hj, cellsI_get hj] at this
    simpa using this

/-- What is left of a budget. -/
def szF (left : Int) (n : Nat) : Int := if left - n < 0 then -1 else left - n
theorem szF_neg {left : Int} {n : Nat} (h : left - n < 0) : szF left n = -1 := if_pos h
theorem szF_pos {left : Int} {n : Nat} (h : ¬ left - n < 0) : szF left n = left - n := if_neg h
theorem sz_ints (v : Value) (zs : List Int) (left : Int) (w : World) (hv : RdI w v zs) (h1 : 0 ≤ left) (h2 : left ≤ 1048576) : Calls Try.prog 104 #[v, .int .i64 left] w fun e w' => e = .returned (.int .i64 (szF left zs.length)) ∧ w = w' := by
  have hm : zs.length ≤ maxLen := by obtain ⟨ao, cap, _, h, _⟩ := hv; omega
  unfold maxLen at hm
  obtain ⟨ao, cap, rfl⟩ := hv.shape
  clear hv
  by_cases hn : left - (zs.length : Int) < 0
  · have Ho := Lib.hid (szF_neg hn)
    go_enter Try.func104, Try.ntmps104
    go_wp2_with fail
    go_ret
    rw [Ho.out]
    exact ⟨rfl, rfl⟩
  · have Ho := Lib.hid (szF_pos hn)
    go_enter Try.func104, Try.ntmps104
    go_wp2_with fail
    go_ret
    rw [Ho.out]
    exact ⟨rfl, rfl⟩

theorem sz_whole (v : Value) (zs : List Int) (left : Int) (w : World) (hv : RdI w v zs) (h1 : 0 ≤ left) (h2 : left ≤ 1048576) : Calls Try.prog 31 #[.agg #[v], .int .i64 left] w (RZ (szF left zs.length) w) := by
  have Hv := Lib.hid hv
  obtain ⟨ao, cap, rfl⟩ := hv.shape
  clear hv
  by_cases hn : left - (zs.length : Int) < 0
  · have Ho := Lib.hid (szF_neg hn)
    go_enter Try.func31, Try.ntmps31
    go_wp2_with fail
    (go_at_call 104; ((with_reducible refine (sz_ints _ zs left _ (Hv.out.alloc _) h1 h2).mono ?_); rintro e w' ⟨rfl, rfl⟩))
    rw [Ho.out]
    go_wp2_with fail
    go_ret
    rw [Ho.out]
    exact ⟨rfl, by (repeat' (first | (with_reducible exact Below.refl _ _) | (with_reducible assumption) | (with_reducible refine Below.alloc ?_ ?_ _) | (with_reducible refine Below.setCell ?_ ?_ _) | (with_reducible refine Below.drew ?_) | (with_reducible refine Below.via (by assumption) ?_ ?_) | go_size))⟩
  · have Ho := Lib.hid (szF_pos hn)
    go_enter Try.func31, Try.ntmps31
    go_wp2_with fail
    (go_at_call 104; ((with_reducible refine (sz_ints _ zs left _ (Hv.out.alloc _) h1 h2).mono ?_); rintro e w' ⟨rfl, rfl⟩))
    rw [Ho.out]
    go_wp2_with fail
    go_ret
    rw [Ho.out]
    exact ⟨rfl, by (repeat' (first | (with_reducible exact Below.refl _ _) | (with_reducible assumption) | (with_reducible refine Below.alloc ?_ ?_ _) | (with_reducible refine Below.setCell ?_ ?_ _) | (with_reducible refine Below.drew ?_) | (with_reducible refine Below.via (by assumption) ?_ ?_) | go_size))⟩

/-- The first k of a list are those of another one. -/
def CopyZ (zs ys : List Int) (k : Nat) : Prop := ys.length = zs.length ∧ ∀ i, i < k → ys.getD i 0 = zs.getD i 0
theorem CopyZ.set {zs ys : List Int} {k : Nat} (h : CopyZ zs ys k) (hk : k < zs.length) : CopyZ zs (ys.set k (zs.getD k 0)) (k + 1) := by
  refine ⟨by simpa using h.1, fun i hi => ?_⟩
  by_cases e : i = k
  · subst e; simp [List.getD, h.1, hk]
  · have := h.2 i (by omega)
    simp only [List.getD] at this ⊢
    rw [List.getElem?_set_ne (by omega)]; exact this
theorem CopyZ.all {zs ys : List Int} (h : CopyZ zs ys zs.length) : ys = zs := by
  refine ext_getD h.1 (fun i => ?_)
  by_cases hi : i < zs.length
  · exact h.2 i hi
  · rw [List.getD, List.getD, List.getElem?_eq_none (by rw [h.1]; omega), List.getElem?_eq_none (by omega)]

set_option maxRecDepth 100000 in
set_option maxHeartbeats 400000 in
theorem copy_ints (v : Value) (zs : List Int) (w : World) (hv : RdI w v zs) (hl : zs.length ≤ 1099511627776) : Calls Try.prog 105 #[v] w fun e w' => ∃ v', e = .returned v' ∧ OwI w' w.heap.size v' zs ∧ Below w.heap.size w w' := by
  have Hv := Lib.hid hv
  obtain ⟨ao, cap, rfl⟩ := hv.shape
  clear hv
  go_enter Try.func105, Try.ntmps105
  go_wp2_with (at_make; go_must (refine wpList_makeI _ rfl _ _ _ rfl int64S_under _ _ zs.length rfl rfl rfl rfl hl ?_; intro w1 hr1 hb1 hlt1))
  have hg1 := Nat.le_refl w.heap.size
  go_loopw [4] (fun i wr => ∃ (k : Nat) (ys : List Int), k ≤ zs.length ∧ i = .int .i64 k ∧ RowI wr w.heap.size (.slice (some ⟨w.heap.size, 0, none⟩) zs.length zs.length) ys ∧ CopyZ zs ys k ∧ Below w.heap.size w wr) (fun i _ => zs.length - (intOf i).toNat)
  case atStart => exact ⟨0, _, Nat.zero_le _, rfl, hr1, ⟨by simp, fun i hi => absurd hi (by omega)⟩, hb1⟩
  case round =>
    obtain ⟨k, ys, hk, rfl, hrow, hcp, hbel⟩ := hrel
    by_cases hlt : k < zs.length
    · have hne : zs ≠ [] := by rintro rfl; simp at hlt
      obtain ⟨b, off, cap', hve, hbs, hc⟩ := Hv.out.open hne
      simp only [Value.slice.injEq] at hve
      obtain ⟨rfl, _, rfl⟩ := hve
      have c1 := (hbel.cell (p := ⟨b, off + k, none⟩) hbs).trans (hc k hlt)
      have c2 := hrow.cell (j := k) (by rw [hcp.1]; exact hlt)
      have c3 := hrow.frozen k
      have H2 := Lib.hid (hrow.set k (zs.getD k 0))
      have H3 := Lib.hid (hcp.set hlt)
      have Hb := Lib.hid hbel
      clear hc hcp hrow hbel hb1 hr1
      generalize ys.getD k 0 = old at *
      generalize zs.getD k 0 = z at *
      go_wp2
      go_roundw
      case rel => exact ⟨k + 1, _, by omega, by go_num, H2.out, H3.out, by have h := Hb.out; (repeat' (first | (with_reducible exact Below.refl _ _) | (with_reducible assumption) | (with_reducible refine Below.alloc ?_ ?_ _) | (with_reducible refine Below.setCell ?_ ?_ _) | (with_reducible refine Below.drew ?_) | (with_reducible refine Below.via (by assumption) ?_ ?_) | go_size))⟩
      case measure => simp [intOf]; omega
    · obtain rfl : k = zs.length := by omega
      obtain rfl := hcp.all
      go_wp2
      go_ret
      exact ⟨_, rfl, hrow.own, hbel⟩

end Go.Proofs.Ytlnjkjogedbhfaa
