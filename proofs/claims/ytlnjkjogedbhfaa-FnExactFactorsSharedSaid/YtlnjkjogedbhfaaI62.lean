/- FactorsOver of the reference. Conditions: lengths of at most 2^40. -/
import Derived.Test.YtlnjkjogedbhfaaI45
import Derived.Test.YtlnjkjogedbhfaaIFac3
import Derived.Test.YtlnjkjogedbhfaaIWs
namespace Go.Proofs.Ytlnjkjogedbhfaa
open Go Go.RowKit
set_option linter.unusedSimpArgs false
set_option linter.unusedVariables false

set_option maxRecDepth 100000 in
set_option maxHeartbeats 4000000 in
theorem few_spec (b : Nat) (v : Value) (zs : List Int) (m : Int) (w : World) (hp : w.cell? ⟨b, 0, none⟩ = some v) (hv : RdI w v zs) (hl : zs.length ≤ 1099511627776) : Calls Try.prog 116 #[.pointer (some ⟨b, 0, none⟩), .int .i64 m] w fun e w' => e = .returned (.bool (facOk m zs)) ∧ w' = w := by
  have Hv := Lib.hid hv
  obtain ⟨ao, c, rfl⟩ := hv.shape
  have Hp := Lib.hid hp
  clear hv
  cases hq : overB m zs
  · have Ho := Lib.hid (show facOk m zs = false by unfold facOk; rw [hq]; rfl)
    go_enter Try.func116, Try.ntmps116
    go_wp2_with fail
    (go_at_call 68; ((with_reducible refine (over_spec _ _ zs m _ (Hp.out) Hv.out hl).mono ?_); rintro e w' ⟨rfl, rfl⟩))
    rw [hq]
    go_wp2_with fail
    go_ret
    exact ⟨by rw [Ho.out]; rfl, rfl⟩
  by_cases h2 : 2 ≤ zs.length
  · have h2' : (2 : Int) ≤ (zs.length : Int) := by omega
    by_cases h7 : zs.length ≤ 7
    · have h7' : (zs.length : Int) ≤ 7 := by omega
      have Ho := Lib.hid (show facOk m zs = true by unfold facOk; rw [hq, decide_eq_true h2, decide_eq_true h7]; rfl)
      go_enter Try.func116, Try.ntmps116
      go_wp2_with fail
      (go_at_call 68; ((with_reducible refine (over_spec _ _ zs m _ (Hp.out) Hv.out hl).mono ?_); rintro e w' ⟨rfl, rfl⟩))
      rw [hq]
      go_wp2_with fail
      go_ret
      exact ⟨by rw [Ho.out]; rfl, rfl⟩
    · have h7' : ¬ (zs.length : Int) ≤ 7 := by omega
      have Ho := Lib.hid (show facOk m zs = false by unfold facOk; rw [hq, decide_eq_false h7]; simp)
      go_enter Try.func116, Try.ntmps116
      go_wp2_with fail
      (go_at_call 68; ((with_reducible refine (over_spec _ _ zs m _ (Hp.out) Hv.out hl).mono ?_); rintro e w' ⟨rfl, rfl⟩))
      rw [hq]
      go_wp2_with fail
      go_ret
      exact ⟨by show Ending.returned (Value.bool (decide ((zs.length : Int) ≤ 7))) = _; rw [decide_eq_false (by omega), Ho.out], rfl⟩
  · have h2' : ¬ (2 : Int) ≤ (zs.length : Int) := by omega
    have Ho := Lib.hid (show facOk m zs = false by unfold facOk; rw [hq, decide_eq_false h2]; simp)
    go_enter Try.func116, Try.ntmps116
    go_wp2_with fail
    (go_at_call 68; ((with_reducible refine (over_spec _ _ zs m _ (Hp.out) Hv.out hl).mono ?_); rintro e w' ⟨rfl, rfl⟩))
    rw [hq]
    go_wp2_with fail
    go_ret
    exact ⟨by rw [Ho.out]; rfl, rfl⟩

set_option maxRecDepth 100000 in
set_option maxHeartbeats 4000000 in
theorem FactorsOver_spec (va : Value) (a : List Int) (m : Int) (w : World) (ha : RdI w va a) (hla : a.length ≤ 1099511627776) : Calls Try.prog 47 #[.agg #[va], .int .i64 m] w (RetWs (facR m a) w) := by
  have Ha := Lib.hid ha
  obtain ⟨aoa, ca, rfl⟩ := ha.shape
  clear ha
  cases hq : facOk m a
  · have Ho := Lib.hid (show facR m a = none by unfold facR; rw [hq]; rfl)
    go_enter Try.func47, Try.ntmps47
    go_wp2_with fail
    (go_at_call 116; ((with_reducible refine (few_spec _ _ a m _ (by go_simp) (Ha.out.below (by (repeat' (first | (with_reducible exact Below.refl _ _) | (with_reducible assumption) | (with_reducible refine Below.alloc ?_ ?_ _) | (with_reducible refine Below.setCell ?_ ?_ _) | (with_reducible refine Below.drew ?_) | (with_reducible refine Below.via (by assumption) ?_ ?_) | go_size)))) hla).mono ?_); rintro e w' ⟨rfl, rfl⟩))
    rw [hq]
    go_wp2_with fail
    go_ret2
    rw [Ho.out]
    exact ⟨_, rfl, .inl ⟨rfl, rfl⟩, by (repeat' (first | (with_reducible exact Below.refl _ _) | (with_reducible assumption) | (with_reducible refine Below.alloc ?_ ?_ _) | (with_reducible refine Below.setCell ?_ ?_ _) | (with_reducible refine Below.drew ?_) | (with_reducible refine Below.via (by assumption) ?_ ?_) | go_size))⟩
  have Ho := Lib.hid (show facR m a = some (facL m a) by rw [facR, if_pos hq])
  have Hq := Lib.hid hq
  have hF := facL_all hq
  have hm2 := primeB_bd hF.hm
  have hm3 : 0 ≤ m := by
    rcases Int.lt_or_le m 0 with h | h
    · rw [show m.toNat = 0 by omega] at hm2; simp at hm2
    · exact h
  clear hq
  obtain ⟨M, rfl⟩ : ∃ M : Nat, m = M := ⟨m.toNat, by omega⟩
  rw [Int.toNat_natCast] at hF
  have HF := Lib.hid hF
  clear hF
  go_enter Try.func47, Try.ntmps47
  go_wp2_with fail
  (go_at_call 116; ((with_reducible refine (few_spec _ _ a (M : Int) _ (by go_simp) (Ha.out.below (by (repeat' (first | (with_reducible exact Below.refl _ _) | (with_reducible assumption) | (with_reducible refine Below.alloc ?_ ?_ _) | (with_reducible refine Below.setCell ?_ ?_ _) | (with_reducible refine Below.drew ?_) | (with_reducible refine Below.via (by assumption) ?_ ?_) | go_size)))) hla).mono ?_); rintro e w' ⟨rfl, rfl⟩))
  rw [Hq.out]
  go_wp2_with fail
  (go_at_call 117; ((with_reducible refine (ordered_spec _ a (monicS M a) M (facL M a) _ (Ha.out.below (by (repeat' (first | (with_reducible exact Below.refl _ _) | (with_reducible assumption) | (with_reducible refine Below.alloc ?_ ?_ _) | (with_reducible refine Below.setCell ?_ ?_ _) | (with_reducible refine Below.drew ?_) | (with_reducible refine Below.via (by assumption) ?_ ?_) | go_size)))) HF.out.hm HF.out.ov HF.out.nz HF.out.l7 rfl HF.out.mon HF.out.fs (Nat.le_trans HF.out.l6 (by omega)) HF.out.srt HF.out.ne).mono ?_); rintro e w3 ⟨v3, rfl, o3, hb3⟩))
  have O3 := Lib.hid (o3.mono (lo' := w.heap.size) (by simp only [World.size_alloc]; omega))
  obtain ⟨p3, n3, rfl⟩ := o3.rd.shape
  clear o3
  go_wp2_with fail
  go_ret2
  rw [Ho.out]
  exact ⟨_, rfl, O3.out, by (repeat' (first | (with_reducible exact Below.refl _ _) | (with_reducible assumption) | (with_reducible refine Below.alloc ?_ ?_ _) | (with_reducible refine Below.setCell ?_ ?_ _) | (with_reducible refine Below.drew ?_) | (with_reducible refine Below.via (by assumption) ?_ ?_) | go_size))⟩

end Go.Proofs.Ytlnjkjogedbhfaa
