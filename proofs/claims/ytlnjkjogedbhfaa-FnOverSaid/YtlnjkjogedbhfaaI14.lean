/- Lists of wholes in memory; wholes over a prime: the tests. Conditions: lengths of at most 2^40. -/
import Derived.Test.YtlnjkjogedbhfaaI13
namespace Go.Proofs.Ytlnjkjogedbhfaa
open Go Go.RowKit
set_option linter.unusedSimpArgs false
set_option linter.unusedVariables false

/-- A slice of wholes that reads as a list of lists. -/
def RdWs (w : World) (v : Value) (ls : List (List Int)) : Prop :=
  ∃ ao cap, v = .slice ao ls.length cap ∧ (ls.length ≤ cap ∧ cap ≤ maxLen) ∧ (ls = [] ∨ ∃ b off, ao = some ⟨b, off, none⟩ ∧ ∀ i, i < ls.length → ∃ u, w.cell? ⟨b, off + i, none⟩ = some u ∧ RdI w u (ls.getD i []))
theorem RdWs.below {w w' : World} {v : Value} {ls : List (List Int)} (h : RdWs w v ls) (hb : Below w.heap.size w w') : RdWs w' v ls := by
  obtain ⟨ao, cap, hv, hcp, hr⟩ := h
  refine ⟨ao, cap, hv, hcp, ?_⟩
  rcases hr with hr | ⟨b, off, ha, hc⟩
  · exact .inl hr
  · refine .inr ⟨b, off, ha, fun i hi => ?_⟩
    obtain ⟨u, h1, h2⟩ := hc i hi
    exact ⟨u, by rw [hb.cell (World.block_lt_of_cell? w _ h1)]; exact h1, h2.below hb⟩
theorem RdWs.shape {w : World} {v : Value} {ls : List (List Int)} (h : RdWs w v ls) : ∃ ao cap, v = .slice ao ls.length cap := by
  obtain ⟨ao, cap, rfl, _⟩ := h
  exact ⟨ao, cap, rfl⟩
theorem RdWs.open {w : World} {v : Value} {ls : List (List Int)} (h : RdWs w v ls) (hn : ls ≠ []) : ∃ b off cap, v = .slice (some ⟨b, off, none⟩) ls.length cap ∧ b < w.heap.size ∧ ∀ i, i < ls.length → ∃ u, w.cell? ⟨b, off + i, none⟩ = some u ∧ RdI w u (ls.getD i []) := by
  obtain ⟨ao, cap, rfl, _, hr⟩ := h
  rcases hr with hr | ⟨b, off, rfl, hc⟩
  · exact absurd hr hn
  · obtain ⟨u, h1, _⟩ := hc 0 (List.length_pos_iff.2 hn)
    exact ⟨b, off, cap, rfl, World.block_lt_of_cell? w _ h1, hc⟩
theorem RdWs.lit2 {w : World} {s : Nat} {va vb : Value} {a b : List Int} (hs : s = w.heap.size) (ha : RdI w va a) (hb : RdI w vb b) : RdWs (w.alloc (.cells #[va, vb] 27)) (.slice (some ⟨s, 0, none⟩) 2 2) [a, b] := by
  subst hs
  refine ⟨_, 2, rfl, ⟨by simp, by decide⟩, .inr ⟨_, 0, rfl, fun i hi => ?_⟩⟩
  match i, hi with
  | 0, _ => exact ⟨va, (World.cell?_alloc_new w _ _ 0 : _), ha.alloc _⟩
  | 1, _ => exact ⟨vb, (World.cell?_alloc_new w _ _ 1 : _), hb.alloc _⟩
theorem RdWs.lit1 {w : World} {s : Nat} {va : Value} {a : List Int} (hs : s = w.heap.size) (ha : RdI w va a) : RdWs (w.alloc (.cells #[va] 27)) (.slice (some ⟨s, 0, none⟩) 1 1) [a] := by
  subst hs
  refine ⟨_, 1, rfl, ⟨by simp, by decide⟩, .inr ⟨_, 0, rfl, fun i hi => ?_⟩⟩
  match i, hi with
  | 0, _ => exact ⟨va, (World.cell?_alloc_new w _ _ 0 : _), ha.alloc _⟩

/-- A valid whole with remainders for terms. -/
def overZ (m : Int) (zs : List Int) : Bool := validB zs && !(zs.any fun z => !inB 0 z (m - 1))
theorem overZ_ovr {m : Int} {zs : List Int} (hm : 0 < m) (h : overZ m zs = true) : Ovr m zs ∧ zs.length ≤ 17 := by
  simp only [overZ, Bool.and_eq_true, Bool.not_eq_true'] at h
  have h1 := validB_ne h.1
  have hl : 0 < zs.length := List.length_pos_iff.2 h1.1
  refine ⟨⟨fun i => ?_, ⟨hl, ?_⟩, by omega⟩, h1.2⟩
  · have h2 := List.any_eq_false.1 h.2
    by_cases hi : i < zs.length
    · have h3 := h2 _ (List.getElem_mem hi)
      have e : zs.getD i 0 = zs[i] := by simp [List.getD, hi]
      rw [e]
      simp [inB] at h3
      omega
    · rw [List.getD, List.getElem?_eq_none (by omega)]
      simp only [Option.getD_none]
      omega
  · have h3 := h.1
    simp only [validB, Bool.and_eq_true, Bool.or_eq_true, decide_eq_true_eq, bne_iff_ne] at h3
    exact h3.1.2

set_option maxRecDepth 100000 in
set_option maxHeartbeats 800000 in
theorem overW_impl (v : Value) (zs : List Int) (prime : Int) (cb : Nat) (w : World) (hv : RdI w v zs) (hl : zs.length ≤ 1099511627776) (hc0 : w.cell? ⟨cb, 0, none⟩ = some (.int .i64 prime)) (h1 : 0 ≤ prime) (h2 : prime ≤ 9223372036854775807) :
    Calls Try.prog 129 #[.agg #[v], .pointer (some ⟨cb, 0, none⟩)] w (RB (!overZ prime zs) w) := by
  have hcb : cb < w.heap.size := World.block_lt_of_cell? w _ hc0
  have Hc0 := Lib.hid hc0
  have Hv := Lib.hid hv
  obtain ⟨ao, cap, rfl⟩ := hv.shape
  clear hv hc0
  cases hq : validB zs
  · have Ho := Lib.hid (show overZ prime zs = false by rw [overZ, hq]; rfl)
    go_enter Try.func129, Try.ntmps129
    go_wp2_with fail
    (go_at_call 24; ((with_reducible refine (valid_impl _ zs _ (Hv.out.alloc _) hl).mono ?_); rintro e w' ⟨rfl, hb⟩))
    go_wp2_with fail
    go_ret
    rw [Ho.out]
    exact ⟨rfl, by (repeat' (first | (with_reducible exact Below.refl _ _) | (with_reducible assumption) | (with_reducible refine Below.alloc ?_ ?_ _) | (with_reducible refine Below.setCell ?_ ?_ _) | (with_reducible refine Below.drew ?_) | (with_reducible refine Below.via (by assumption) ?_ ?_) | go_size))⟩
  · have Ho := Lib.hid (show overZ prime zs = !(zs.any fun z => !inB 0 z (prime - 1)) by rw [overZ, hq]; rfl)
    generalize hany : (zs.any fun z => !inB 0 z (prime - 1)) = q at Ho
    have Ha := Lib.hid hany
    clear hany
    go_enter Try.func129, Try.ntmps129
    go_wp2_with fail
    (go_at_call 24; ((with_reducible refine (valid_impl _ zs _ (Hv.out.alloc _) hl).mono ?_); rintro e w' ⟨rfl, hb⟩))
    obtain ⟨ch, fh⟩ := bcell hb
    have hz := hb.size
    simp only [World.size_alloc] at hz
    have lw : w.heap.size < w'.heap.size := by omega
    go_wp2_with fail
    clear hq
    (go_at_call 96; ((with_reducible refine (contains_notOver _ zs prime cb _ ((Hv.out.alloc _).below hb) hl ((((Below.refl w.heap.size w).alloc (Nat.le_refl _) _).trans (hb.mono (by simp))).cell (p := ⟨cb, 0, none⟩) hcb |>.trans Hc0.out) h1 h2).mono ?_); rintro e w2 ⟨rfl, rfl⟩))
    rw [Ha.out]
    go_wp2_with fail
    go_ret
    rw [Ho.out]
    exact ⟨by simp, by (repeat' (first | (with_reducible exact Below.refl _ _) | (with_reducible assumption) | (with_reducible refine Below.alloc ?_ ?_ _) | (with_reducible refine Below.setCell ?_ ?_ _) | (with_reducible refine Below.drew ?_) | (with_reducible refine Below.via (by assumption) ?_ ?_) | go_size))⟩

/-- None of the first k. -/
def NoneW (p : List Int → Bool) (ls : List (List Int)) (k : Nat) : Prop := ∀ i, i < k → p (ls.getD i []) = false
theorem NoneW.succ {p : List Int → Bool} {ls : List (List Int)} {k : Nat} (h : NoneW p ls k) (hk : p (ls.getD k []) = false) : NoneW p ls (k + 1) := fun i hi => by
  by_cases e : i = k
  · subst e; exact hk
  · exact h i (by omega)
theorem anyW_true {p : List Int → Bool} {ls : List (List Int)} {k : Nat} (hk : k < ls.length) (h : p (ls.getD k []) = true) : ls.any p = true := by
  rw [List.any_eq_true]
  refine ⟨ls[k], List.getElem_mem hk, ?_⟩
  simpa [List.getD, hk] using h
theorem NoneW.any {p : List Int → Bool} {ls : List (List Int)} (h : NoneW p ls ls.length) : ls.any p = false := by
  rw [List.any_eq_false]
  intro x hx
  obtain ⟨i, hi, rfl⟩ := List.getElem_of_mem hx
  have := h i hi
  simp [List.getD, hi] at this
  simp [this]
def RetJx (b : Bool) (w : World) (e : Ending) (w' : World) : Prop := ∃ j : Int, e = .returned (.int .i64 j) ∧ decide (0 ≤ j) = b ∧ Below w.heap.size w w'

set_option maxRecDepth 100000 in
set_option maxHeartbeats 800000 in
theorem indexW_over (v : Value) (ls : List (List Int)) (prime : Int) (cb : Nat) (w : World) (hv : RdWs w v ls) (hl : ls.length ≤ 1099511627776) (hl2 : ∀ i, (ls.getD i []).length ≤ 1099511627776) (hc0 : w.cell? ⟨cb, 0, none⟩ = some (.int .i64 prime)) (h1 : 0 ≤ prime) (h2 : prime ≤ 9223372036854775807) :
    Calls Try.prog 145 #[v, .func (.func 129) #[] #[.pointer (some ⟨cb, 0, none⟩)]] w (RetJx (ls.any fun zs => !overZ prime zs) w) := by
  have hcb : cb < w.heap.size := World.block_lt_of_cell? w _ hc0
  have Hc0 := Lib.hid hc0
  have Hv := Lib.hid hv
  clear hc0
  by_cases hn : ls = []
  · obtain ⟨ao, cap, rfl⟩ := hv.shape
    subst hn
    clear hv
    go_enter Try.func145, Try.ntmps145
    go_wp2
    refine wp_loop_rounds 1 ?_
    rw [rounds_succ]
    go_wp2
    go_ret
    exact ⟨-1, rfl, rfl, Below.refl _ _⟩
  · obtain ⟨b, off, cap, rfl, hb, hc⟩ := hv.open hn
    have Hc := Lib.hid hc
    clear hc hv
    go_enter Try.func145, Try.ntmps145
    go_wp2
    go_loopw [8] (fun i wr => ∃ k : Nat, k ≤ ls.length ∧ i = .int .i64 k ∧ NoneW (fun zs => !overZ prime zs) ls k ∧ Below w.heap.size w wr) (fun i _ => ls.length - (intOf i).toNat)
    case atStart => exact ⟨0, Nat.zero_le _, rfl, fun i hi => absurd hi (by omega), Below.refl _ _⟩
    case round =>
      obtain ⟨k, hk, rfl, hf, hbel⟩ := hrel
      by_cases hlt : k < ls.length
      · obtain ⟨u, hu, hru⟩ := Hc.out k hlt
        obtain ⟨ao, cu, rfl⟩ := hru.shape
        have c1 := (hbel.cell (p := ⟨b, off + k, none⟩) hb).trans hu
        have Hru := Lib.hid (hru.below hbel)
        have HC := Lib.hid ((hbel.cell (p := ⟨cb, 0, none⟩) hcb).trans Hc0.out)
        have hle := hl2 k
        have hsz := hbel.size
        have Hbel := Lib.hid hbel
        clear hu hru hl2 hbel
        cases hx : (fun zs => !overZ prime zs) (ls.getD k [])
        · have H2 := Lib.hid (hf.succ hx)
          clear hf
          generalize ls.getD k [] = zs at *
          dsimp only at hx
          go_wp2_with fail
          (go_at_call 129; ((with_reducible refine (overW_impl _ zs prime cb _ Hru.out hle HC.out h1 h2).mono ?_); rintro e w' ⟨rfl, hb1⟩))
          go_wp2_with fail
          go_roundw
          case rel => exact ⟨k + 1, by omega, by go_num, H2.out, Hbel.out.trans (hb1.mono hsz)⟩
          case measure => simp [intOf]; omega
        · have H2 := Lib.hid (anyW_true (p := fun zs => !overZ prime zs) hlt hx)
          clear hf
          generalize ls.getD k [] = zs at *
          dsimp only at hx
          go_wp2_with fail
          (go_at_call 129; ((with_reducible refine (overW_impl _ zs prime cb _ Hru.out hle HC.out h1 h2).mono ?_); rintro e w' ⟨rfl, hb1⟩))
          go_wp2_with fail
          go_ret
          rw [H2.out]
          exact ⟨_, rfl, by simp, Hbel.out.trans (hb1.mono hsz)⟩
      · obtain rfl : k = ls.length := by omega
        have H2 := Lib.hid hf.any
        clear hf
        go_wp2
        go_ret
        rw [H2.out]
        exact ⟨_, rfl, by simp, hbel⟩

theorem containsW_over (v : Value) (ls : List (List Int)) (prime : Int) (cb : Nat) (w : World) (hv : RdWs w v ls) (hl : ls.length ≤ 1099511627776) (hl2 : ∀ i, (ls.getD i []).length ≤ 1099511627776) (hc0 : w.cell? ⟨cb, 0, none⟩ = some (.int .i64 prime)) (h1 : 0 ≤ prime) (h2 : prime ≤ 9223372036854775807) :
    Calls Try.prog 128 #[v, .func (.func 129) #[] #[.pointer (some ⟨cb, 0, none⟩)]] w (RB (ls.any fun zs => !overZ prime zs) w) := by
  have C := Lib.hid (indexW_over v ls prime cb w hv hl hl2 hc0 h1 h2)
  clear hv hc0 hl2
  go_enter Try.func128, Try.ntmps128
  go_wp2_with fail
  (go_at_call 145; ((with_reducible refine (C.out).mono ?_); rintro e w' ⟨j, rfl, hj, hb⟩))
  have Hb := Lib.hid hb
  clear hb
  go_wp2_with fail
  all_goals
    go_ret
    exact ⟨by simp [*], Hb.out⟩

/-- Over a prime, all of them. -/
def areOverB (m : Int) (ls : List (List Int)) : Bool := primeB m && !(ls.any fun zs => !overZ m zs)
set_option maxRecDepth 100000 in
set_option maxHeartbeats 800000 in
theorem areOver_impl (v : Value) (ls : List (List Int)) (prime : Int) (w : World) (hv : RdWs w v ls) (hl : ls.length ≤ 1099511627776) (hl2 : ∀ i, (ls.getD i []).length ≤ 1099511627776) :
    Calls Try.prog 78 #[.int .i64 prime, v] w (RB (areOverB prime ls) w) := by
  have Hv := Lib.hid hv
  have Hl2 := Lib.hid hl2
  obtain ⟨ao, cap, rfl⟩ := hv.shape
  clear hv hl2
  cases hp : primeB prime
  · have Ho := Lib.hid (show areOverB prime ls = false by rw [areOverB, hp]; rfl)
    go_enter Try.func78, Try.ntmps78
    go_wp2_with fail
    (go_at_call 121; ((with_reducible refine (isPrime_impl _ _).mono ?_); rintro e w' ⟨rfl, hb⟩))
    go_wp2_with fail
    go_ret
    rw [Ho.out]
    exact ⟨rfl, by (repeat' (first | (with_reducible exact Below.refl _ _) | (with_reducible assumption) | (with_reducible refine Below.alloc ?_ ?_ _) | (with_reducible refine Below.setCell ?_ ?_ _) | (with_reducible refine Below.drew ?_) | (with_reducible refine Below.via (by assumption) ?_ ?_) | go_size))⟩
  · have hpb := primeB_bd hp
    have Ho := Lib.hid (show areOverB prime ls = !(ls.any fun zs => !overZ prime zs) by rw [areOverB, hp]; rfl)
    generalize hany : (ls.any fun zs => !overZ prime zs) = q at Ho
    have Ha := Lib.hid hany
    clear hany
    go_enter Try.func78, Try.ntmps78
    go_wp2_with fail
    (go_at_call 121; ((with_reducible refine (isPrime_impl _ _).mono ?_); rintro e w' ⟨rfl, hb⟩))
    obtain ⟨ch, fh⟩ := bcell hb
    have hz := hb.size
    simp only [World.size_alloc] at hz
    have lw : w.heap.size < w'.heap.size := by omega
    have Hb := Lib.hid (show Below w.heap.size w w' by (repeat' (first | (with_reducible exact Below.refl _ _) | (with_reducible assumption) | (with_reducible refine Below.alloc ?_ ?_ _) | (with_reducible refine Below.setCell ?_ ?_ _) | (with_reducible refine Below.drew ?_) | (with_reducible refine Below.via (by assumption) ?_ ?_) | go_size)))
    have Hc := Lib.hid (show w'.cell? ⟨w.heap.size, 0, none⟩ = some (.int .i64 prime) from (hb.cell (p := ⟨w.heap.size, 0, none⟩) (by simp)).trans (World.cell?_alloc_new w _ _ 0 : _))
    go_wp2_with fail
    clear hp
    (go_at_call 128; ((with_reducible refine (containsW_over _ ls prime w.heap.size _ (Hv.out.below Hb.out) hl Hl2.out Hc.out (by omega) (by omega)).mono ?_); rintro e w2 ⟨rfl, hb2⟩))
    rw [Ha.out]
    go_wp2_with fail
    go_ret
    rw [Ho.out]
    have hb1 := Hb.out
    exact ⟨by simp, by (repeat' (first | (with_reducible exact Below.refl _ _) | (with_reducible assumption) | (with_reducible refine Below.alloc ?_ ?_ _) | (with_reducible refine Below.setCell ?_ ?_ _) | (with_reducible refine Below.drew ?_) | (with_reducible refine Below.via (by assumption) ?_ ?_) | go_size))⟩

end Go.Proofs.Ytlnjkjogedbhfaa
