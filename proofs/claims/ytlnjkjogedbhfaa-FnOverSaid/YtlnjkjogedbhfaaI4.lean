/- Checked wholes, their parts, remainders. Conditions: lengths of at most 2^40. -/
import Derived.Test.YtlnjkjogedbhfaaI3
import Derived.Deep.DeepMust
namespace Go.Proofs.Ytlnjkjogedbhfaa
open Go Go.RowKit
set_option linter.unusedSimpArgs false
set_option linter.unusedVariables false

theorem Below.via {W w w' : World} {B : Nat} (hb : Below W.heap.size W w') (h : Below B w W) (hs : B ≤ W.heap.size) : Below B w w' := h.trans (hb.mono hs)
theorem OwI.setCell {w : World} {B : Nat} {v : Value} {zs : List Int} (h : OwI w B v zs) {a : Addr} (ha : a.block < B) (u : Value) : OwI (w.setCell a u) B v zs := by
  rcases h with h | ⟨g, cap, cur, h1, h2, h3, h4⟩
  · exact .inl h
  · exact .inr ⟨g, cap, cur, h1, h2, by rw [Below.heap_setCell w a u g (by omega)]; exact h3, h4⟩

/-- A whole if it is valid. -/
def giveF (zs : List Int) : List Int × Bool := if validB zs then (zs, true) else ([], false)
theorem OwI.nil (w : World) (B : Nat) : OwI w B (.slice none 0 0) [] := .inl ⟨rfl, rfl⟩
theorem validB_ne {zs : List Int} (h : validB zs = true) : zs ≠ [] ∧ zs.length ≤ 17 := by
  simp only [validB, Bool.and_eq_true, decide_eq_true_eq] at h
  refine ⟨?_, h.1.1.2⟩
  rintro rfl
  simp at h

set_option maxRecDepth 100000 in
set_option maxHeartbeats 400000 in
theorem checked_impl (v : Value) (zs : List Int) (w : World) (B : Nat) (hv : OwI w B v zs) (hl : zs.length ≤ 1099511627776) : Calls Try.prog 92 #[.agg #[v]] w fun e w' => ∃ v', e = .returned (.tuple #[.agg #[v'], .bool (giveF zs).2]) ∧ OwI w' B v' (giveF zs).1 ∧ Below w.heap.size w w' := by
  have C := Lib.hid (valid_impl v zs _ ((hv.rd.alloc (.cells #[v] 27)).alloc (.cells #[.slice none 0 0] 27)) hl)
  have Hv := Lib.hid hv
  obtain ⟨ao, cap, rfl⟩ := hv.rd.shape
  clear hv
  cases hq : validB zs
  · rw [show giveF zs = ([], false) by rw [giveF, hq]; rfl]
    go_enter Try.func92, Try.ntmps92
    go_wp2_with (go_at_call 24; go_must (refine (C.out).mono ?_); rintro e w' ⟨rfl, hb⟩; obtain ⟨chb, fhb⟩ := bcell hb; have zhb := hb.size; (try simp only [World.size_alloc, World.size_setCell, World.size_drew] at zhb); (try have lhb : w.heap.size < w'.heap.size := by omega))
    (try simp only [Exit.inBlock, Exit.then]); refine bodyPost_ret (by simp [results, Try.results92, go_sem, *]; try rfl) rfl ?_
    exact ⟨_, rfl, OwI.nil _ _, by (repeat' (first | (with_reducible exact Below.refl _ _) | (with_reducible assumption) | (with_reducible refine Below.alloc ?_ ?_ _) | (with_reducible refine Below.setCell ?_ ?_ _) | (with_reducible refine Below.drew ?_) | (with_reducible refine Below.via (by assumption) ?_ ?_) | go_size))⟩
  · rw [show giveF zs = (zs, true) by rw [giveF, hq]; rfl]
    go_enter Try.func92, Try.ntmps92
    go_wp2_with (go_at_call 24; go_must (refine (C.out).mono ?_); rintro e w' ⟨rfl, hb⟩; obtain ⟨chb, fhb⟩ := bcell hb; have zhb := hb.size; (try simp only [World.size_alloc, World.size_setCell, World.size_drew] at zhb); (try have lhb : w.heap.size < w'.heap.size := by omega))
    (try simp only [Exit.inBlock, Exit.then]); refine bodyPost_ret (by simp [results, Try.results92, go_sem, *]; try rfl) rfl ?_
    have hB : Below w.heap.size w (w'.setCell ⟨w.heap.size + 1, 0, none⟩ (.slice ao zs.length cap)) := by (repeat' (first | (with_reducible exact Below.refl _ _) | (with_reducible assumption) | (with_reducible refine Below.alloc ?_ ?_ _) | (with_reducible refine Below.setCell ?_ ?_ _) | (with_reducible refine Below.drew ?_) | (with_reducible refine Below.via (by assumption) ?_ ?_) | go_size))
    exact ⟨_, rfl, Hv.out.below hB, hB⟩

set_option maxRecDepth 100000 in
set_option maxHeartbeats 400000 in
theorem give_spec (v : Value) (zs : List Int) (w : World) (hv : RdI w v zs) (hl : zs.length ≤ 1099511627776) : Calls Try.prog 66 #[v] w (RWB (giveF (trimS zs)) w) := by
  have C := Lib.hid (trim_spec v zs _ (hv.alloc (.cells #[.slice none 0 0] 27)) hl)
  have hl2 : (trimS zs).length ≤ 1099511627776 := by
    have h1 := trimN_le zs
    unfold trimS
    split
    · simp
    · rw [trimZ_length]; omega
  clear hv
  generalize trimS zs = ys at *
  have D := Lib.hid (fun w1 v1 b (hp : w1.cell? ⟨b, 0, none⟩ = some v1) (hv1 : RdI w1 v1 ys) => is_spec b v1 ys w1 hp hv1 hl2)
  cases hq : validB ys
  · have Hg := Lib.hid (show giveF ys = ([], false) by rw [giveF, hq]; rfl)
    go_enter Try.func66, Try.ntmps66
    go_wp2_with (first | (go_at_call 74; go_must (refine (C.out).mono ?_); rintro e w' ⟨v1, rfl, ho, hb⟩; obtain ⟨chb, fhb⟩ := bcell hb; have zhb := hb.size; (try simp only [World.size_alloc, World.size_setCell, World.size_drew] at zhb); (try have lhb : w.heap.size < w'.heap.size := by omega); have Hr := Lib.hid ho.rd; obtain ⟨ao, cap, rfl⟩ := ho.rd.shape; clear ho) | (go_at_call 65; go_must (refine (D.out _ _ _ (by go_simp) (Hr.out.alloc _)).mono ?_); rintro e w' ⟨rfl, rfl⟩))
    (try simp only [Exit.inBlock, Exit.then]); refine bodyPost_ret (by simp [results, Try.results66, go_sem, *]; try rfl) rfl ?_
    rw [Hg.out]
    exact ⟨_, rfl, OwI.nil _ _, by (repeat' (first | (with_reducible exact Below.refl _ _) | (with_reducible assumption) | (with_reducible refine Below.alloc ?_ ?_ _) | (with_reducible refine Below.setCell ?_ ?_ _) | (with_reducible refine Below.drew ?_) | (with_reducible refine Below.via (by assumption) ?_ ?_) | go_size))⟩
  · have Hg := Lib.hid (show giveF ys = (ys, true) by rw [giveF, hq]; rfl)
    go_enter Try.func66, Try.ntmps66
    go_wp2_with (first | (go_at_call 74; go_must (refine (C.out).mono ?_); rintro e w' ⟨v1, rfl, ho, hb⟩; obtain ⟨chb, fhb⟩ := bcell hb; have zhb := hb.size; (try simp only [World.size_alloc, World.size_setCell, World.size_drew] at zhb); (try have lhb : w.heap.size < w'.heap.size := by omega); have Ho := Lib.hid ho; have Hr := Lib.hid ho.rd; obtain ⟨ao, cap, rfl⟩ := ho.rd.shape; clear ho) | (go_at_call 65; go_must (refine (D.out _ _ _ (by go_simp) (Hr.out.alloc _)).mono ?_); rintro e w' ⟨rfl, rfl⟩))
    (try simp only [Exit.inBlock, Exit.then]); refine bodyPost_ret (by simp [results, Try.results66, go_sem, *]; try rfl) rfl ?_
    rw [Hg.out]
    exact ⟨_, rfl, ((Ho.out.setCell (by simp) _).alloc _).mono (by simp), by (repeat' (first | (with_reducible exact Below.refl _ _) | (with_reducible assumption) | (with_reducible refine Below.alloc ?_ ?_ _) | (with_reducible refine Below.setCell ?_ ?_ _) | (with_reducible refine Below.drew ?_) | (with_reducible refine Below.via (by assumption) ?_ ?_) | go_size))⟩

def zeroB (zs : List Int) : Bool := decide (zs.length = 1) && zs.getD 0 0 == 0
theorem noWhole_impl (v : Value) (zs : List Int) (w : World) (hv : RdI w v zs) (hl : zs.length ≤ 1099511627776) : Calls Try.prog 93 #[.agg #[v]] w fun e w' => e = .returned (.bool (zeroB zs)) ∧ Below w.heap.size w w' := by
  by_cases h1 : zs.length = 1
  · obtain ⟨b, off, cap, rfl, hb, hc⟩ := hv.open (by rintro rfl; simp at h1)
    have c1 := hc 0 (by omega)
    rw [Nat.add_zero] at c1
    have hd : zeroB zs = (zs.getD 0 0 == 0) := by simp [zeroB, h1]
    rw [hd, h1]
    generalize zs.getD 0 0 = z at *
    clear hc hv hd
    go_enter Try.func93, Try.ntmps93
    go_wp2
    all_goals
      go_ret
      exact ⟨by simp, (Below.refl _ _).alloc (Nat.le_refl _) _⟩
  · obtain ⟨ao, cap, rfl⟩ := hv.shape
    have hd : zeroB zs = false := by simp [zeroB, h1]
    have h2 : ((zs.length : Int) == 1) = false := by simp; omega
    rw [hd]
    go_enter Try.func93, Try.ntmps93
    go_wp2
    go_ret
    exact ⟨by simp, (Below.refl _ _).alloc (Nat.le_refl _) _⟩

theorem zero_spec (v : Value) (zs : List Int) (w : World) (hv : RdI w v zs) (hl : zs.length ≤ 1099511627776) : Calls Try.prog 123 #[v] w fun e w' => e = .returned (.bool (zeroB zs)) ∧ w = w' := by
  by_cases h1 : zs.length = 1
  · obtain ⟨b, off, cap, rfl, hb, hc⟩ := hv.open (by rintro rfl; simp at h1)
    have c1 := hc 0 (by omega)
    rw [Nat.add_zero] at c1
    have hd : zeroB zs = (zs.getD 0 0 == 0) := by simp [zeroB, h1]
    rw [hd, h1]
    generalize zs.getD 0 0 = z at *
    clear hc hv hd
    go_enter Try.func123, Try.ntmps123
    go_wp2
    all_goals
      go_ret
      exact ⟨by simp, rfl⟩
  · obtain ⟨ao, cap, rfl⟩ := hv.shape
    have hd : zeroB zs = false := by simp [zeroB, h1]
    have h2 : ((zs.length : Int) == 1) = false := by simp; omega
    rw [hd]
    go_enter Try.func123, Try.ntmps123
    go_wp2
    go_ret
    exact ⟨by simp, rfl⟩

theorem degree_impl (ao : Option Addr) (n cap : Nat) (w : World) (hl : n ≤ 1099511627776) : Calls Try.prog 79 #[.agg #[.slice ao n cap]] w fun e w' => e = .returned (.int .i64 ((n : Int) - 1)) ∧ Below w.heap.size w w' := by
  go_enter Try.func79, Try.ntmps79
  go_wp2
  go_ret
  exact ⟨rfl, (Below.refl _ _).alloc (Nat.le_refl _) _⟩

def lastZ (zs : List Int) : Int := zs.getD (zs.length - 1) 0
theorem last_impl (v : Value) (zs : List Int) (w : World) (hv : RdI w v zs) (hn : zs ≠ []) (hl : zs.length ≤ 1099511627776) : Calls Try.prog 80 #[.agg #[v]] w (RZ (lastZ zs) w) := by
  have h0 : 0 < zs.length := List.length_pos_iff.2 hn
  obtain ⟨b, off, cap, rfl, hb, hc⟩ := hv.open hn
  have c1 := hc (zs.length - 1) (by omega)
  rw [← lastZ] at c1
  generalize lastZ zs = z at *
  clear hc hv
  go_enter Try.func80, Try.ntmps80
  go_wp2
  go_ret
  exact ⟨rfl, (Below.refl _ _).alloc (Nat.le_refl _) _⟩

/-- A term, 0 for one that is missing. -/
def atZ (zs : List Int) (k : Int) : Int := if 0 ≤ k ∧ k < zs.length then zs.getD k.toNat 0 else 0
theorem integerAt_impl (v : Value) (zs : List Int) (k : Int) (w : World) (hv : RdI w v zs) (hl : zs.length ≤ 1099511627776) : Calls Try.prog 89 #[v, .int .i64 k] w fun e w' => e = .returned (.int .i64 (atZ zs k)) ∧ w = w' := by
  by_cases h1 : 0 ≤ k ∧ k < zs.length
  · obtain ⟨j, rfl⟩ : ∃ j : Nat, k = j := ⟨k.toNat, by omega⟩
    have hj : j < zs.length := by omega
    obtain ⟨b, off, cap, rfl, hb, hc⟩ := hv.open (by rintro rfl; simp at hj)
    have c1 := hc j hj
    have hd : atZ zs j = zs.getD j 0 := by rw [atZ, if_pos h1]; rfl
    rw [hd]
    generalize zs.getD j 0 = z at *
    clear hc hv hd h1
    go_enter Try.func89, Try.ntmps89
    go_wp2
    go_ret
    exact ⟨rfl, rfl⟩
  · obtain ⟨ao, cap, rfl⟩ := hv.shape
    rw [atZ, if_neg h1]
    go_enter Try.func89, Try.ntmps89
    by_cases h2 : k < 0
    · go_wp2
      go_ret
      exact ⟨rfl, rfl⟩
    · have h3 : (zs.length : Int) ≤ k := by omega
      go_wp2
      go_ret
      exact ⟨rfl, rfl⟩

end Go.Proofs.Ytlnjkjogedbhfaa
