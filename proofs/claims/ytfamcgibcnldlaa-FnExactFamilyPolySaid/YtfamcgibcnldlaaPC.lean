/- Whether complex numbers without an imaginary part are finite, of the program and of the reference: both answer the same. Conditions: lengths of at most 2^40. -/
import Derived.Test.YtfamcgibcnldlaaPB
namespace Go.Proofs.Ytfamcgibcnldlaa
open Go Go.RowKit
set_option linter.unusedSimpArgs false
set_option linter.unusedVariables false

theorem RdV.openC {w : World} {v : Value} {rs : List Nat} (h : RdV w v (cx rs)) : (rs = [] ∧ ∃ ao cap, v = .slice ao 0 cap) ∨
    ∃ b off cap, v = .slice (some ⟨b, off, none⟩) rs.length cap ∧ b < w.heap.size ∧ (rs.length ≤ cap ∧ cap ≤ maxLen) ∧ ∀ i (_ : i < rs.length), w.cell? ⟨b, off + i, none⟩ = some (.complex .f32 rs[i] 0) := by
  by_cases hn : rs = []
  · subst hn
    obtain ⟨ao, cap, rfl, _⟩ := h.shape
    exact .inl ⟨rfl, ao, cap, rfl⟩
  · obtain ⟨b, off, cap, rfl, hb, hc, hr⟩ := h.open (by simpa [cx] using hn)
    rw [cx_length] at hc hr ⊢
    exact .inr ⟨b, off, cap, rfl, hb, hc, fun i hi => by rw [hr i hi, cx_get hi]; simp [List.getD, hi]⟩
theorem RdV.openF {w : World} {v : Value} {rs : List Nat} (h : RdV w v (fl rs)) : (rs = [] ∧ ∃ ao cap, v = .slice ao 0 cap) ∨
    ∃ b off cap, v = .slice (some ⟨b, off, none⟩) rs.length cap ∧ b < w.heap.size ∧ (rs.length ≤ cap ∧ cap ≤ maxLen) ∧ ∀ i (_ : i < rs.length), w.cell? ⟨b, off + i, none⟩ = some (.float .f32 rs[i]) := by
  by_cases hn : rs = []
  · subst hn
    obtain ⟨ao, cap, rfl, _⟩ := h.shape
    exact .inl ⟨rfl, ao, cap, rfl⟩
  · obtain ⟨b, off, cap, rfl, hb, hc, hr⟩ := h.open (by simpa [fl] using hn)
    rw [fl_length] at hc hr ⊢
    exact .inr ⟨b, off, cap, rfl, hb, hc, fun i hi => by rw [hr i hi, fl_get hi]; simp [List.getD, hi]⟩

/-- A bool; memory may have been made. -/
def RB (b : Bool) (w : World) (e : Ending) (w' : World) : Prop := e = .returned (.bool b) ∧ Below w.heap.size w w'

theorem fin0 : finF (nrm .f32 0) = true := by decide +kernel

theorem cfin1_spec (r : Nat) (w : World) : Calls Try.prog 53 #[.complex .f32 r 0] w (RetB (finF (nrm .f32 r)) w) := by
  have f0 := fin0
  cases h : finF (nrm .f32 r) <;>
  · go_enter Try.func53, Try.ntmps53
    go_wp2_with (go_at_call 23; refine (isFinite_spec _ _).mono ?_; rintro e w' ⟨m, rfl, rfl⟩)
    go_ret
    exact ⟨_, rfl, by first | rfl | (simp; rfl)⟩

theorem rdF_two (w : World) (r : Nat) : RdF (w.alloc (.cells #[.float .f32 r, .float .f32 0] 22)) (.slice (some ⟨w.heap.size, 0, none⟩) 2 2) [r, 0] := by
  have hc : ∀ j, (w.alloc (.cells #[.float .f32 r, .float .f32 0] 22)).cell? ⟨w.heap.size, j, none⟩ = #[Value.float .f32 r, Value.float .f32 0][j]? := fun j => World.cell?_alloc_new w _ _ j
  refine ⟨_, 2, rfl, .inr ⟨w.heap.size, 0, rfl, fun i hi => ?_⟩⟩
  have h2 : i = 0 ∨ i = 1 := by simp at hi; omega
  rcases h2 with rfl | rfl
  · exact hc 0
  · exact hc 1

theorem cfin1_impl (r : Nat) (w : World) : Calls Try.prog 56 #[.complex .f32 r 0] w (RB (finF (nrm .f32 r)) w) := by
  have f0 := fin0
  have ha : allFin [r, 0] = finF (nrm .f32 r) := by simp [allFin, f0]
  have Ha := Lib.hid ha
  clear ha
  go_enter Try.func56, Try.ntmps56
  go_wp2_with fail
  (go_at_call 28; ((with_reducible refine (areFinite_impl _ [r, 0] _ (rdF_two w r) (by simp)).mono ?_)))
  rintro e w' ⟨m, rfl, rfl⟩
  rw [Ha.out]
  go_wp2_with fail
  go_ret
  exact ⟨rfl, below_drewN ((Below.refl _ _).alloc (Nat.le_refl _) _) _⟩

theorem notFin1_impl (r : Nat) (w : World) : Calls Try.prog 55 #[.complex .f32 r 0] w (RB (!finF (nrm .f32 r)) w) := by
  go_enter Try.func55, Try.ntmps55
  go_wp2_with (go_at_call 56; refine (cfin1_impl _ _).mono ?_; rintro e w' ⟨rfl, hb⟩)
  go_ret
  exact ⟨rfl, hb⟩

set_option maxRecDepth 100000 in
set_option maxHeartbeats 400000 in
theorem cfinite_spec (v : Value) (rs : List Nat) (w : World) (hv : RdV w v (cx rs)) (hl : rs.length ≤ 1099511627776) :
    Calls Try.prog 51 #[v] w (RetB (allFin rs) w) := by
  rcases hv.openC with ⟨rfl, ao, cap, rfl⟩ | ⟨b, off, cap, rfl, hb, hcp, hc⟩
  · clear hv
    go_enter Try.func51, Try.ntmps51
    go_wp2
    refine wp_loop_rounds 1 ?_
    rw [rounds_succ]
    go_wp2
    go_ret
    exact ⟨0, rfl, rfl⟩
  · have Hc := Lib.hid hc
    clear hc hv
    go_enter Try.func51, Try.ntmps51
    go_wp2
    go_loopw [3] (fun i wr => ∃ k m : Nat, k ≤ rs.length ∧ i = .int .i64 k ∧ wr = w.drewN m ∧ FinUpto rs k) (fun i _ => rs.length - (intOf i).toNat)
    case atStart => exact ⟨0, 0, Nat.zero_le _, rfl, rfl, FinUpto.zero rs⟩
    case round =>
      obtain ⟨k, m, hk, rfl, rfl, hf⟩ := hrel
      by_cases hlt : k < rs.length
      · have c1 := Hc.out k hlt
        by_cases hx : finF (nrm .f32 rs[k]) = true
        · have H2 := Lib.hid (hf.succ hlt hx)
          clear hf
          go_wp2_with (go_at_call 53; refine (cfin1_spec _ _).mono ?_; rintro e w' ⟨m, rfl, rfl⟩)
          go_roundw
          case rel => exact ⟨k + 1, _, by omega, by go_num, by first | rfl | simp [Nat.add_assoc], H2.out⟩
          case measure => simp [intOf]; omega
        · have hx : finF (nrm .f32 rs[k]) = false := by simpa using hx
          have H2 := Lib.hid (allFin_false hlt hx)
          clear hf
          go_wp2_with (go_at_call 53; refine (cfin1_spec _ _).mono ?_; rintro e w' ⟨m, rfl, rfl⟩)
          go_ret
          rw [H2.out]
          exact ⟨_, rfl, by first | rfl | (simp; rfl)⟩
      · have H2 := Lib.hid (allFin_take hf (by omega))
        clear hf
        go_wp2
        go_ret
        rw [H2.out]
        exact ⟨_, rfl, rfl⟩

def RetIxB (b : Bool) (w : World) (e : Ending) (w' : World) : Prop := ∃ (j : Int), e = .returned (.int .i64 j) ∧ decide (0 ≤ j) = b ∧ Below w.heap.size w w'

set_option maxRecDepth 100000 in
set_option maxHeartbeats 400000 in
theorem cindexNot_impl (v : Value) (rs : List Nat) (w : World) (hv : RdV w v (cx rs)) (hl : rs.length ≤ 1099511627776) :
    Calls Try.prog 57 #[v, .func (.func 55) #[] #[]] w (RetIxB (!allFin rs) w) := by
  rcases hv.openC with ⟨rfl, ao, cap, rfl⟩ | ⟨b, off, cap, rfl, hb, hcp, hc⟩
  · clear hv
    go_enter Try.func57, Try.ntmps57
    go_wp2
    refine wp_loop_rounds 1 ?_
    rw [rounds_succ]
    go_wp2
    go_ret
    exact ⟨-1, rfl, rfl, Below.refl _ _⟩
  · have Hc := Lib.hid hc
    clear hc hv
    go_enter Try.func57, Try.ntmps57
    go_wp2
    go_loopw [8] (fun i wr => ∃ k : Nat, k ≤ rs.length ∧ i = .int .i64 k ∧ Below w.heap.size w wr ∧ FinUpto rs k) (fun i _ => rs.length - (intOf i).toNat)
    case atStart => exact ⟨0, Nat.zero_le _, rfl, Below.refl _ _, FinUpto.zero rs⟩
    case round =>
      obtain ⟨k, hk, rfl, hbel, hf⟩ := hrel
      have Hb := Lib.hid hbel
      by_cases hlt : k < rs.length
      · have c1 := (hbel.cell (p := ⟨b, off + k, none⟩) hb).trans (Hc.out k hlt)
        clear hbel
        by_cases hx : finF (nrm .f32 rs[k]) = true
        · have H2 := Lib.hid (hf.succ hlt hx)
          clear hf
          go_wp2_with (go_at_call 55; refine (notFin1_impl _ _).mono ?_; rintro e w' ⟨rfl, hb1⟩)
          go_roundw
          case rel => exact ⟨k + 1, by omega, by go_num, Hb.out.trans (hb1.mono Hb.out.size), H2.out⟩
          case measure => simp [intOf]; omega
        · have hx : finF (nrm .f32 rs[k]) = false := by simpa using hx
          have H2 := Lib.hid (allFin_false hlt hx)
          clear hf
          go_wp2_with (go_at_call 55; refine (notFin1_impl _ _).mono ?_; rintro e w' ⟨rfl, hb1⟩)
          go_ret
          rw [H2.out]
          exact ⟨_, rfl, by simp, Hb.out.trans (hb1.mono Hb.out.size)⟩
      · have H2 := Lib.hid (allFin_take hf (by omega))
        clear hf hbel
        go_wp2
        go_ret
        rw [H2.out]
        exact ⟨_, rfl, rfl, Hb.out⟩

theorem ccontainsNot_impl (v : Value) (rs : List Nat) (w : World) (hv : RdV w v (cx rs)) (hl : rs.length ≤ 1099511627776) :
    Calls Try.prog 54 #[v, .func (.func 55) #[] #[]] w (RB (!allFin rs) w) := by
  have Hv := Lib.hid hv
  clear hv
  go_enter Try.func54, Try.ntmps54
  go_wp2_with (go_at_call 57; refine (cindexNot_impl _ _ _ Hv.out hl).mono ?_; rintro e w' ⟨j, rfl, hj, hb⟩)
  go_ret
  exact ⟨by simp [hj], hb⟩

theorem allFinite_impl (v : Value) (rs : List Nat) (w : World) (hv : RdV w v (cx rs)) (hl : rs.length ≤ 1099511627776) :
    Calls Try.prog 52 #[v] w (RB (allFin rs) w) := by
  have Hv := Lib.hid hv
  clear hv
  go_enter Try.func52, Try.ntmps52
  go_wp2_with (go_at_call 54; refine (ccontainsNot_impl _ _ _ Hv.out hl).mono ?_; rintro e w' ⟨rfl, hb⟩)
  go_ret
  exact ⟨by simp, hb⟩

end Go.Proofs.Ytfamcgibcnldlaa
