/- The laws' helpers that mark and look at a list of floats of the call's own. Conditions: lengths of at most 2^40. -/
import Derived.Test.YtcbaanidbkjmcaaFamRow
import Derived.Maps.AppendAt
namespace Go.Proofs.Ytcbaanidbkjmcaa
open Go Go.RowKit

theorem isN_write_number (k : FloatKind) (s : Bool) (m : Nat) (e : Int) : isN k (k.format.write (.number s m e)) = false := by
  obtain ⟨r, hr, hle⟩ := nearest_rung k.format s m e
  have hb : k.format.binade ≤ k.format.infRung := by cases k <;> decide +kernel
  have hsw := k.format.infRung_lt
  show (k.format.read (k.format.nearest s m e)).isNaN = false
  rw [hr]
  have hm : k.format.word s r % k.format.signWeight = r := by
    unfold Ieee.Format.word
    split
    · rw [Nat.add_mod_left, Nat.mod_eq_of_lt (by omega)]
    · rw [Nat.mod_eq_of_lt (by omega)]
  unfold Ieee.Format.read
  simp only [hm]
  split
  · rfl
  · split
    · rfl
    · rw [if_pos (by omega)]; rfl

theorem isN_ofInt (k : FloatKind) (n : Int) : isN k (floatOfInt k n) = false := isN_write_number k _ _ _

/-- The first 'n' cells bear the numbers from 'k' on. -/
def Marked (k : Int) (n : Nat) (ys : List Value) : Prop := ∀ j, j < n → ys[j]? = some (.float .f32 (floatOfInt .f32 (k + j)))
theorem Marked.zero (k : Int) (ys : List Value) : Marked k 0 ys := fun _ h => absurd h (by omega)
theorem Marked.set {k : Int} {n : Nat} {ys : List Value} (h : Marked k n ys) (hn : n < ys.length) : Marked k (n + 1) (ys.set n (.float .f32 (floatOfInt .f32 (k + n)))) := fun j hj => by
  by_cases e : j = n
  · subst e; simp [hn]
  · rw [List.getElem?_set_ne (by omega)]; exact h j (by omega)

/-- Nothing but the row's own block has turned. -/
def MarkP (B : Nat) (v : Value) (n : Nat) (k : Int) (w : World) (e : Ending) (w' : World) : Prop :=
  ∃ ys, e = .returned (.int .i64 (k + n)) ∧ w'.ownsRow B 22 1 v n ys ∧ Marked k n ys ∧ w.grownBy w' v.ownBlock

set_option maxRecDepth 100000 in
set_option maxHeartbeats 400000 in
theorem mark_floats (B n : Nat) (v : Value) (xs : List Value) (k : Int) (w : World) (hown : w.ownsRow B 22 1 v n xs) (hn : n ≤ 1099511627776) (k0 : 0 ≤ k) (k1 : k ≤ 1099511627776) :
    Calls Try.prog 22 #[v, .int .i64 k] w (MarkP B v n k w) := by
  by_cases h0 : n = 0
  · subst h0
    obtain ⟨ao, cap, rfl⟩ : ∃ ao cap, v = .slice ao 0 cap := by
      rcases hown.2 with ⟨rfl, _⟩ | ⟨g, cap, _, rfl, _⟩
      · exact ⟨_, _, rfl⟩
      · exact ⟨_, _, rfl⟩
    go_enter Try.func22, Try.ntmps22
    go_wp2
    refine wp_loop_rounds 1 ?_
    rw [rounds_succ]
    go_wp2
    go_ret
    exact ⟨xs, by simp, hown, Marked.zero _ _, World.grownBy.refl _ _⟩
  · obtain ⟨g, cap, rfl, hg⟩ := hown.form (by omega)
    go_enter Try.func22, Try.ntmps22
    go_wp2
    go_loopw [1, 5] (fun q i wr => ∃ (j : Nat) (ys : List Value), j ≤ n ∧ i = .int .i64 j ∧ q = .int .i64 (k + j) ∧ wr.ownsRow B 22 1 (.slice (some ⟨g, 0, none⟩) n cap) n ys ∧ Marked k j ys ∧ w.grownBy wr (some g)) (fun _ i _ => n - (intOf i).toNat)
    case atStart => exact ⟨0, xs, Nat.zero_le _, rfl, by simp, hown, Marked.zero _ _, World.grownBy.refl _ _⟩
    case round =>
      obtain ⟨j, ys, hj, rfl, rfl, hown1, hm, hgr⟩ := hrel
      by_cases hlt : j < n
      · have hlen : ys.length = n := by simpa using hown1.1
        have hc := hown1.cellAt j (by omega)
        rw [List.getElem?_eq_getElem (show j < ys.length by omega)] at hc
        have hfz := hown1.frozenAt j
        have H2 := Lib.hid (hown1.stored j (.float .f32 (floatOfInt .f32 (k + j))))
        have H3 := Lib.hid (hm.set (by omega))
        generalize ys[j]'(by omega) = old at hc
        clear hm hlen
        go_wp2
        go_roundw
        case rel => exact ⟨j + 1, _, by omega, by go_num, by go_num, H2.out.1, H3.out, hgr.trans H2.out.2⟩
        case measure => simp [intOf]; omega
      · obtain rfl : j = n := by omega
        go_wp2
        go_ret
        exact ⟨ys, rfl, hown1, hm, hgr⟩

set_option maxRecDepth 100000 in
set_option maxHeartbeats 400000 in
theorem held_floats (B n : Nat) (v : Value) (ys : List Value) (k : Int) (w : World) (hown : w.ownsRow B 22 1 v n ys) (hm : Marked k n ys) (hn : n ≤ 1099511627776) (k0 : 0 ≤ k) (k1 : k ≤ 1099511627776) :
    Calls Try.prog 23 #[v, .int .i64 k] w fun e w' => e = .returned (.int .i64 (k + n)) ∧ w = w' := by
  by_cases h0 : n = 0
  · subst h0
    obtain ⟨ao, cap, rfl⟩ : ∃ ao cap, v = .slice ao 0 cap := by
      rcases hown.2 with ⟨rfl, _⟩ | ⟨g, cap, _, rfl, _⟩
      · exact ⟨_, _, rfl⟩
      · exact ⟨_, _, rfl⟩
    go_enter Try.func23, Try.ntmps23
    go_wp2
    refine wp_loop_rounds 1 ?_
    rw [rounds_succ]
    go_wp2
    go_ret
    exact ⟨by simp, rfl⟩
  · obtain ⟨g, cap, rfl, hg⟩ := hown.form (by omega)
    have Hm := Lib.hid hm
    clear hm
    go_enter Try.func23, Try.ntmps23
    go_wp2
    go_loop [1, 5] (fun q i => ∃ j : Nat, j ≤ n ∧ i = .int .i64 j ∧ q = .int .i64 (k + j)) (fun _ i => n - (intOf i).toNat)
    case atStart => exact ⟨0, Nat.zero_le _, rfl, by simp⟩
    case round =>
      obtain ⟨j, hj, rfl, rfl⟩ := hrel
      by_cases hlt : j < n
      · have hc := hown.cellAt j (by omega)
        rw [Hm.out j hlt] at hc
        have hq := (fcmp_self (k := .f32) (x := nrm .f32 (floatOfInt .f32 (k + j))) (by rw [isN_nrm]; exact isN_ofInt _ _)).1
        go_wp2
        go_round
        case rel => exact ⟨j + 1, by omega, by go_num, by go_num⟩
        case measure => simp [intOf]; omega
      · obtain rfl : j = n := by omega
        go_wp2
        go_ret
        exact ⟨rfl, rfl⟩

end Go.Proofs.Ytcbaanidbkjmcaa
