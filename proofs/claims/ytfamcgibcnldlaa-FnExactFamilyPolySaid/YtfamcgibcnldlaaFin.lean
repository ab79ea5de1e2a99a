/- Whether numbers are finite, of the program and of the reference: both answer the same. Conditions: lengths of at most 2^40. -/
import Derived.Test.YtfamcgibcnldlaaEq
namespace Go.Proofs.Ytfamcgibcnldlaa
open Go Go.RowKit
set_option linter.unusedSimpArgs false
set_option linter.unusedVariables false

/-- Finite, of a word with the bits of a NaN forgotten. -/
def finF (x : Nat) : Bool := fcmp .eql .f32 (fop .sub .f32 x x) (nrm .f32 0)
def allFin (rs : List Nat) : Bool := rs.all fun r => finF (nrm .f32 r)

theorem isFinite_impl (x : Nat) (w : World) : Calls Try.prog 26 #[.float .f32 x] w (RetB (finF (nrm .f32 x)) w) := by
  go_enter Try.func26, Try.ntmps26
  go_wp2_with (with_reducible refine wpList_fop rfl _ _ _ _ _ rfl rfl .f32 _ _ rfl rfl ?_; intro r m hr)
  go_ret
  exact ⟨_, rfl, rfl⟩

theorem isFinite_spec (x : Nat) (w : World) : Calls Try.prog 23 #[.float .f32 x] w (RetB (finF (nrm .f32 x)) w) := by
  go_enter Try.func23, Try.ntmps23
  go_wp2_with (with_reducible refine wpList_fop rfl _ _ _ _ _ rfl rfl .f32 _ _ rfl rfl ?_; intro r m hr)
  go_ret
  exact ⟨_, rfl, rfl⟩

theorem notFinite_impl (x : Nat) (w : World) : Calls Try.prog 41 #[.float .f32 x] w (RetB (!finF (nrm .f32 x)) w) := by
  go_enter Try.func41, Try.ntmps41
  go_wp2_with (go_at_call 26; refine (isFinite_impl _ _).mono ?_; rintro e w' ⟨m, rfl, rfl⟩)
  go_ret
  exact ⟨_, rfl, rfl⟩

theorem allFin_true_iff (rs : List Nat) : allFin rs = true ↔ ∀ i (h : i < rs.length), finF (nrm .f32 rs[i]) = true := by
  simp only [allFin, List.all_eq_true]
  constructor
  · intro h i hi; exact h _ (List.getElem_mem hi)
  · intro h x hx
    obtain ⟨i, hi, rfl⟩ := List.getElem_of_mem hx
    exact h i hi
theorem allFin_false {rs : List Nat} {i : Nat} (h : i < rs.length) (hf : finF (nrm .f32 rs[i]) = false) : allFin rs = false := by
  cases ha : allFin rs with
  | false => rfl
  | true => rw [allFin_true_iff] at ha; rw [ha i h] at hf; cases hf
theorem allFin_take {rs : List Nat} {k : Nat} (h : ∀ i (h : i < rs.length), i < k → finF (nrm .f32 rs[i]) = true) (hk : rs.length ≤ k) : allFin rs = true :=
  (allFin_true_iff rs).2 fun i hi => h i hi (by omega)

def FinUpto (rs : List Nat) (k : Nat) : Prop := ∀ i (h : i < rs.length), i < k → finF (nrm .f32 rs[i]) = true
theorem FinUpto.zero (rs : List Nat) : FinUpto rs 0 := fun _ _ h => absurd h (by omega)
theorem FinUpto.succ {rs : List Nat} {k : Nat} (h : FinUpto rs k) (hk : k < rs.length) (hf : finF (nrm .f32 rs[k]) = true) : FinUpto rs (k + 1) := fun i hi hik => by
  by_cases e : i = k
  · subst e; exact hf
  · exact h i hi (by omega)

set_option maxRecDepth 100000 in
set_option maxHeartbeats 400000 in
theorem finite_spec (v : Value) (rs : List Nat) (w : World) (hv : RdF w v rs) (hl : rs.length ≤ 1099511627776) :
    Calls Try.prog 25 #[v] w (RetB (allFin rs) w) := by
  obtain ⟨ao, cap, rfl, hv⟩ := hv
  rcases hv with rfl | ⟨b, off, rfl, hc⟩
  · go_enter Try.func25, Try.ntmps25
    go_wp2
    refine wp_loop_rounds 1 ?_
    rw [rounds_succ]
    go_wp2
    go_ret
    exact ⟨0, rfl, rfl⟩
  · have Hc := Lib.hid hc
    clear hc
    go_enter Try.func25, Try.ntmps25
    go_wp2
    go_loopw [3] (fun i wr => ∃ k m : Nat, k ≤ rs.length ∧ i = .int .i64 k ∧ wr = w.drewN m ∧ FinUpto rs k) (fun i _ => rs.length - (intOf i).toNat)
    case atStart => exact ⟨0, 0, Nat.zero_le _, rfl, rfl, FinUpto.zero rs⟩
    case round =>
      obtain ⟨k, m, hk, rfl, rfl, hf⟩ := hrel
      by_cases hlt : k < rs.length
      · have c1 := Hc.out k hlt
        by_cases hx : finF (nrm .f32 rs[k]) = true
        · have H2 := Lib.hid (hf.succ hlt hx)
          clear hf
          go_wp2_with (go_at_call 23; refine (isFinite_spec _ _).mono ?_; rintro e w' ⟨m, rfl, rfl⟩)
          go_roundw
          case rel => exact ⟨k + 1, _, by omega, by go_num, by first | rfl | simp [Nat.add_assoc], H2.out⟩
          case measure => simp [intOf]; omega
        · have hx : finF (nrm .f32 rs[k]) = false := by simpa using hx
          have H2 := Lib.hid (allFin_false hlt hx)
          clear hf
          go_wp2_with (go_at_call 23; refine (isFinite_spec _ _).mono ?_; rintro e w' ⟨m, rfl, rfl⟩)
          go_ret
          rw [H2.out]
          exact ⟨_, rfl, by first | rfl | (simp; rfl)⟩
      · have H2 := Lib.hid (allFin_take hf (by omega))
        clear hf
        go_wp2
        go_ret
        rw [H2.out]
        exact ⟨_, rfl, rfl⟩

def RetIx (b : Bool) (w : World) (e : Ending) (w' : World) : Prop := ∃ (j : Int) (m : Nat), e = .returned (.int .i64 j) ∧ decide (0 ≤ j) = b ∧ w' = w.drewN m

set_option maxRecDepth 100000 in
set_option maxHeartbeats 400000 in
theorem indexNot_impl (v : Value) (rs : List Nat) (w : World) (hv : RdF w v rs) (hl : rs.length ≤ 1099511627776) :
    Calls Try.prog 50 #[v, .func (.func 41) #[] #[]] w (RetIx (!allFin rs) w) := by
  obtain ⟨ao, cap, rfl, hv⟩ := hv
  rcases hv with rfl | ⟨b, off, rfl, hc⟩
  · go_enter Try.func50, Try.ntmps50
    go_wp2
    refine wp_loop_rounds 1 ?_
    rw [rounds_succ]
    go_wp2
    go_ret
    exact ⟨-1, 0, rfl, rfl, rfl⟩
  · have Hc := Lib.hid hc
    clear hc
    go_enter Try.func50, Try.ntmps50
    go_wp2
    go_loopw [8] (fun i wr => ∃ k m : Nat, k ≤ rs.length ∧ i = .int .i64 k ∧ wr = w.drewN m ∧ FinUpto rs k) (fun i _ => rs.length - (intOf i).toNat)
    case atStart => exact ⟨0, 0, Nat.zero_le _, rfl, rfl, FinUpto.zero rs⟩
    case round =>
      obtain ⟨k, m, hk, rfl, rfl, hf⟩ := hrel
      by_cases hlt : k < rs.length
      · have c1 := Hc.out k hlt
        by_cases hx : finF (nrm .f32 rs[k]) = true
        · have H2 := Lib.hid (hf.succ hlt hx)
          clear hf
          go_wp2_with (go_at_call 41; refine (notFinite_impl _ _).mono ?_; rintro e w' ⟨m, rfl, rfl⟩)
          go_roundw
          case rel => exact ⟨k + 1, _, by omega, by go_num, by first | rfl | simp [Nat.add_assoc], H2.out⟩
          case measure => simp [intOf]; omega
        · have hx : finF (nrm .f32 rs[k]) = false := by simpa using hx
          have H2 := Lib.hid (allFin_false hlt hx)
          clear hf
          go_wp2_with (go_at_call 41; refine (notFinite_impl _ _).mono ?_; rintro e w' ⟨m, rfl, rfl⟩)
          go_ret
          rw [H2.out]
          exact ⟨_, _, rfl, by simp, by first | rfl | (simp; rfl)⟩
      · have H2 := Lib.hid (allFin_take hf (by omega))
        clear hf
        go_wp2
        go_ret
        rw [H2.out]
        exact ⟨_, _, rfl, by simp, rfl⟩

set_option maxRecDepth 100000 in
theorem containsNot_impl (v : Value) (rs : List Nat) (w : World) (hv : RdF w v rs) (hl : rs.length ≤ 1099511627776) :
    Calls Try.prog 40 #[v, .func (.func 41) #[] #[]] w (RetB (!allFin rs) w) := by
  have Hv := Lib.hid hv
  clear hv
  go_enter Try.func40, Try.ntmps40
  go_wp2_with (go_at_call 50; refine (indexNot_impl _ _ _ Hv.out hl).mono ?_; rintro e w' ⟨j, m, rfl, hj, rfl⟩)
  all_goals
    go_ret
    exact ⟨_, by simp [*], rfl⟩

set_option maxRecDepth 100000 in
theorem areFinite_impl (v : Value) (rs : List Nat) (w : World) (hv : RdF w v rs) (hl : rs.length ≤ 1099511627776) :
    Calls Try.prog 28 #[v] w (RetB (allFin rs) w) := by
  have Hv := Lib.hid hv
  clear hv
  go_enter Try.func28, Try.ntmps28
  go_wp2_with (go_at_call 40; refine (containsNot_impl _ _ _ Hv.out hl).mono ?_; rintro e w' ⟨m, rfl, rfl⟩)
  go_ret
  exact ⟨_, by simp, rfl⟩

end Go.Proofs.Ytfamcgibcnldlaa
