/- Trimmed lists and wholes. Conditions: lengths of at most 2^40. -/
import Derived.Test.YtlnjkjogedbhfaaI2
import Derived.Test.YtlnjkjogedbhfaaIPush
import Derived.Handy
namespace Go.Proofs.Ytlnjkjogedbhfaa
open Go Go.RowKit
set_option linter.unusedSimpArgs false
set_option linter.unusedVariables false

/-- A slice cut off: its capacity is its length. -/
theorem clip_impl (ao : Option Addr) (n cap : Nat) (w : World) (h : n ≤ cap) (hz : ao = none → cap = 0) : Calls Try.prog 131 #[.slice ao n cap] w fun e w' => e = .returned (.slice ao n n) ∧ w = w' := by
  go_enter Try.func131, Try.ntmps131
  cases ao with
  | none =>
    have := hz rfl
    obtain rfl : cap = 0 := this
    obtain rfl : n = 0 := by omega
    go_wp2
    go_ret
    exact ⟨rfl, rfl⟩
  | some a =>
    obtain ⟨b, o, p⟩ := a
    go_wp2
    go_ret
    exact ⟨rfl, rfl⟩

theorem OwI.open {w : World} {B : Nat} {v : Value} {zs : List Int} (h : OwI w B v zs) (hn : zs ≠ []) : ∃ g cap, v = .slice (some ⟨g, 0, none⟩) zs.length cap ∧ B ≤ g ∧ g < w.heap.size ∧ zs.length ≤ cap ∧ cap ≤ maxLen ∧ ∀ i, i < zs.length → w.cell? ⟨g, i, none⟩ = some (.int .i64 (zs.getD i 0)) := by
  have hr := h.rd
  rcases h with ⟨_, h⟩ | ⟨g, cap, cur, rfl, hb, hg, h1, h2, h3, h4⟩
  · exact absurd h hn
  · refine ⟨g, cap, rfl, hb, (Array.getElem?_eq_some_iff.1 hg).1, h1, by omega, fun i hi => ?_⟩
    obtain ⟨ao, cap', hv, _, hr⟩ := hr
    rcases hr with hr | ⟨b, off, ha, hc⟩
    · exact absurd hr hn
    · simp only [Value.slice.injEq] at hv
      obtain ⟨rfl, _, _⟩ := hv
      simp only [Option.some.injEq, Addr.mk.injEq, and_true] at ha
      obtain ⟨rfl, rfl⟩ := ha
      simpa using hc i hi

set_option maxRecDepth 100000 in
set_option maxHeartbeats 400000 in
theorem whole_impl (v : Value) (zs : List Int) (w : World) (B : Nat) (hv : OwI w B v zs) (hl : zs.length ≤ 1099511627776) : Calls Try.prog 86 #[v] w fun e w' => ∃ v', e = .returned (.agg #[v']) ∧ OwI w' B v' (trimZ zs) ∧ Below w.heap.size w w' := by
  by_cases hn : zs = []
  · have Hv := Lib.hid hv
    rcases hv with ⟨rfl, _⟩ | ⟨g, cap, cur, rfl, _, hgs, h1, h2, h3, _⟩
    · subst hn
      go_enter Try.func86, Try.ntmps86
      go_wp2
      refine wp_loop_rounds 1 ?_
      rw [rounds_succ]
      go_wp2_with (go_at_call 131; refine (clip_impl _ _ _ _ (by omega) (by simp)).mono ?_; rintro e w' ⟨rfl, rfl⟩)
      go_returns
      exact ⟨_, rfl, .inl ⟨rfl, rfl⟩, (Below.refl _ _).alloc (Nat.le_refl _) _⟩
    · subst hn
      clear hgs h3
      go_enter Try.func86, Try.ntmps86
      go_wp2
      refine wp_loop_rounds 1 ?_
      rw [rounds_succ]
      go_wp2_with (go_at_call 131; refine (clip_impl _ _ _ _ (by omega) (by simp)).mono ?_; rintro e w' ⟨rfl, rfl⟩)
      go_returns
      exact ⟨_, rfl, (Hv.out.take (n := 0) (c := 0) (by simp) (by omega) (by omega)).alloc _, (Below.refl _ _).alloc (Nat.le_refl _) _⟩
  · obtain ⟨g, cap, rfl, hb, hg, hcap, hm, hc⟩ := hv.open hn
    have Hc := Lib.hid hc
    have Hv := Lib.hid hv
    have h0 : 0 < zs.length := List.length_pos_iff.2 hn
    clear hc hv
    go_enter Try.func86, Try.ntmps86
    go_wp2
    go_loop [3] (fun i => ∃ k : Nat, 1 ≤ k ∧ k ≤ zs.length ∧ i = .int .i64 k ∧ trimTo zs k = trimN zs) (fun i => (intOf i).toNat)
    case atStart => exact ⟨zs.length, h0, Nat.le_refl _, rfl, rfl⟩
    case round =>
      obtain ⟨k, hk0, hk, rfl, hf⟩ := hrel
      have c1 := Hc.out (k - 1) (by omega)
      by_cases h1 : 1 < k
      · by_cases h2 : zs.getD (k - 1) 0 = 0
        · have H2 := Lib.hid ((trimTo_step h1 h2).symm.trans hf)
          rw [h2] at c1
          clear hf h2
          go_wp2
          go_round
          case rel => exact ⟨k - 1, by omega, by omega, by go_num, H2.out⟩
          case measure => simp [intOf]; omega
        · have H2 := Lib.hid (trimTo_end (zs := zs) (n := k) (fun h => h2 h.2))
          have H3 := Lib.hid hf
          have h5 : (zs.getD (k - 1) 0 == 0) = false := by simpa using h2
          clear hf h2
          generalize zs.getD (k - 1) 0 = z at *
          go_wp2_with (go_at_call 131; refine (clip_impl _ _ _ _ (by omega) (by simp)).mono ?_; rintro e w' ⟨rfl, rfl⟩)
          go_returns
          refine ⟨_, rfl, ?_, (Below.refl _ _).alloc (Nat.le_refl _) _⟩
          rw [show trimZ zs = zs.take k by rw [trimZ, ← H3.out, H2.out]]
          exact (Hv.out.take (by omega) (by omega) (by omega)).alloc _
      · have H2 := Lib.hid (trimTo_end (zs := zs) (n := k) (fun h => h1 h.1))
        have H3 := Lib.hid hf
        clear hf
        go_wp2_with (go_at_call 131; refine (clip_impl _ _ _ _ (by omega) (by simp)).mono ?_; rintro e w' ⟨rfl, rfl⟩)
        go_returns
        refine ⟨_, rfl, ?_, (Below.refl _ _).alloc (Nat.le_refl _) _⟩
        rw [show trimZ zs = zs.take k by rw [trimZ, ← H3.out, H2.out]]
        exact (Hv.out.take (by omega) (by omega) (by omega)).alloc _

theorem int64S_under : Try.prog.underlying 24 = some (.slice 2) := by kernel_rfl
def RL0 (zs : List Int) (w : World) (e : Ending) (w' : World) : Prop := ∃ v, e = .returned v ∧ OwI w' w.heap.size v zs ∧ Below w.heap.size w w'
set_option maxRecDepth 100000 in
set_option maxHeartbeats 400000 in
theorem trim_spec (v : Value) (zs : List Int) (w : World) (hv : RdI w v zs) (hl : zs.length ≤ 1099511627776) : Calls Try.prog 74 #[v] w (RL (trimS zs) w) := by
  by_cases hn : zs = []
  · obtain ⟨ao, cap, rfl⟩ := hv.shape
    subst hn
    go_enter Try.func74, Try.ntmps74
    go_wp2
    refine wp_loop_rounds 1 ?_
    rw [rounds_succ]
    go_wp2
    go_returns
    refine ⟨_, rfl, ?_, (Below.refl _ _).alloc (Nat.le_refl _) _⟩
    exact OwI.of_row (n := 1) (World.ownsRow_lit (base := w.heap.size) (size := 1) w _ 1 (Nat.le_refl _) (by decide) rfl)
  · have h0 : 0 < zs.length := List.length_pos_iff.2 hn
    obtain ⟨b, off, cap, rfl, hb, ⟨hcap, hcm⟩, hc⟩ := hv.openC hn
    have Hc := Lib.hid hc
    have Hv := Lib.hid hv
    clear hc hv
    go_enter Try.func74, Try.ntmps74
    go_wp2
    go_loop [3] (fun i => ∃ k : Nat, 1 ≤ k ∧ k ≤ zs.length ∧ i = .int .i64 k ∧ trimTo zs k = trimN zs) (fun i => (intOf i).toNat)
    case atStart => exact ⟨zs.length, h0, Nat.le_refl _, rfl, rfl⟩
    case round =>
      obtain ⟨k, hk0, hk, rfl, hf⟩ := hrel
      have c1 := Hc.out (k - 1) (by omega)
      by_cases h1 : 1 < k
      · by_cases h2 : zs.getD (k - 1) 0 = 0
        · have H2 := Lib.hid ((trimTo_step h1 h2).symm.trans hf)
          rw [h2] at c1
          clear hf h2
          go_wp2
          go_round
          case rel => exact ⟨k - 1, by omega, by omega, by go_num, H2.out⟩
          case measure => simp [intOf]; omega
        · have H2 := Lib.hid (trimTo_end (zs := zs) (n := k) (fun h => h2 h.2))
          have H3 := Lib.hid hf
          have h5 : (zs.getD (k - 1) 0 == 0) = false := by simpa using h2
          clear hf h2
          generalize zs.getD (k - 1) 0 = z at *
          have H4 := Lib.hid (show trimS zs = zs.take k by rw [trimS, if_neg hn, trimZ, ← H3.out, H2.out])
          have H5 := Lib.hid (Hv.out.take (n := k) (c := cap) hk (by omega) hcm)
          have H6 := Lib.hid (show (zs.take k).length = k by simp; omega)
          go_wp2_with (at_builtin; refine wpList_clone rfl _ _ rfl int64S_under H5.out (List.ne_nil_of_length_pos (by rw [H6.out]; omega)) (by rw [H6.out]; omega) rfl rfl rfl ?_; intro g1 cap1 w1 hown hbel; rw [H6.out] at *)
          go_returns
          rw [H4.out]
          exact ⟨.slice (some ⟨g1, 0, none⟩) k cap1, rfl, hown, hbel⟩
      · have H2 := Lib.hid (trimTo_end (zs := zs) (n := k) (fun h => h1 h.1))
        have H3 := Lib.hid hf
        clear hf
        have H4 := Lib.hid (show trimS zs = zs.take k by rw [trimS, if_neg hn, trimZ, ← H3.out, H2.out])
        have H5 := Lib.hid (Hv.out.take (n := k) (c := cap) hk (by omega) hcm)
        have H6 := Lib.hid (show (zs.take k).length = k by simp; omega)
        obtain rfl : k = 1 := by omega
        go_wp2_with (at_builtin; refine wpList_clone rfl _ _ rfl int64S_under H5.out (List.ne_nil_of_length_pos (by rw [H6.out]; omega)) (by rw [H6.out]; omega) rfl rfl rfl ?_; intro g1 cap1 w1 hown hbel; rw [H6.out] at *)
        go_returns
        rw [H4.out]
        exact ⟨.slice (some ⟨g1, 0, none⟩) 1 cap1, rfl, hown, hbel⟩

end Go.Proofs.Ytlnjkjogedbhfaa
