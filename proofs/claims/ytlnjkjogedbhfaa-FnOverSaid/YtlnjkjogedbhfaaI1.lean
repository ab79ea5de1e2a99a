/- Tests of the program and of the reference on lists of integers. Conditions: lengths of at most 2^40. -/
import Derived.Test.YtlnjkjogedbhfaaIBase
namespace Go.Proofs.Ytlnjkjogedbhfaa
open Go Go.RowKit
set_option linter.unusedSimpArgs false
set_option linter.unusedVariables false

theorem in_spec (n lo hi : Int) (w : World) : Calls Try.prog 109 #[.int .i64 n, .int .i64 lo, .int .i64 hi] w fun e w' => e = .returned (.bool (inB lo n hi)) ∧ w = w' := by
  by_cases h1 : lo ≤ n
  · by_cases h2 : n ≤ hi
    · have hd : inB lo n hi = true := by simp [inB, h1, h2]
      rw [hd]; clear hd
      go_enter Try.func109, Try.ntmps109
      go_wp2
      go_ret
      exact ⟨rfl, rfl⟩
    · have hd : inB lo n hi = false := by simp [inB, h2]
      rw [hd]; clear hd
      go_enter Try.func109, Try.ntmps109
      go_wp2
      go_ret
      exact ⟨rfl, rfl⟩
  · have hd : inB lo n hi = false := by simp [inB, h1]
    rw [hd]; clear hd
    go_enter Try.func109, Try.ntmps109
    go_wp2
    go_ret
    exact ⟨rfl, rfl⟩

theorem within_impl (n lo hi : Int) (w : World) : Calls Try.prog 95 #[.int .i64 n, .int .i64 lo, .int .i64 hi] w fun e w' => e = .returned (.bool (inB lo n hi)) ∧ w = w' := by
  by_cases h1 : lo ≤ n
  · by_cases h2 : n ≤ hi
    · have hd : inB lo n hi = true := by simp [inB, h1, h2]
      rw [hd]; clear hd
      go_enter Try.func95, Try.ntmps95
      go_wp2
      go_ret
      exact ⟨rfl, rfl⟩
    · have hd : inB lo n hi = false := by simp [inB, h2]
      rw [hd]; clear hd
      go_enter Try.func95, Try.ntmps95
      go_wp2
      go_ret
      exact ⟨rfl, rfl⟩
  · have hd : inB lo n hi = false := by simp [inB, h1]
    rw [hd]; clear hd
    go_enter Try.func95, Try.ntmps95
    go_wp2
    go_ret
    exact ⟨rfl, rfl⟩

theorem notValid_impl (z : Int) (w : World) : Calls Try.prog 99 #[.int .i64 z] w fun e w' => e = .returned (.bool (!inB (-1000000) z 1000000)) ∧ w = w' := by
  go_enter Try.func99, Try.ntmps99
  go_wp2_with (go_at_call 95; refine (within_impl _ _ _ _).mono ?_; rintro e w' ⟨rfl, rfl⟩)
  go_ret
  exact ⟨rfl, rfl⟩

theorem notOver_impl (z prime : Int) (b : Nat) (w : World) (hc : w.cell? ⟨b, 0, none⟩ = some (.int .i64 prime)) (h1 : 0 ≤ prime) (h2 : prime ≤ 9223372036854775807) : Calls Try.prog 130 #[.int .i64 z, .pointer (some ⟨b, 0, none⟩)] w fun e w' => e = .returned (.bool (!inB 0 z (prime - 1))) ∧ w = w' := by
  go_enter Try.func130, Try.ntmps130
  go_wp2_with (go_at_call 95; refine (within_impl _ _ _ _).mono ?_; rintro e w' ⟨rfl, rfl⟩)
  go_ret
  exact ⟨rfl, rfl⟩

theorem notZero_impl (z : Int) (w : World) : Calls Try.prog 97 #[.int .i64 z] w fun e w' => e = .returned (.bool (z != 0)) ∧ w = w' := by
  go_enter Try.func97, Try.ntmps97
  go_wp2
  go_ret
  exact ⟨rfl, rfl⟩

/-- None of the first k. -/
def NoneUpto (p : Int → Bool) (zs : List Int) (k : Nat) : Prop := ∀ i, i < k → p (zs.getD i 0) = false
theorem NoneUpto.zero (p : Int → Bool) (zs : List Int) : NoneUpto p zs 0 := fun _ h => absurd h (by omega)
theorem NoneUpto.succ {p : Int → Bool} {zs : List Int} {k : Nat} (h : NoneUpto p zs k) (hk : p (zs.getD k 0) = false) : NoneUpto p zs (k + 1) := fun i hi => by
  by_cases e : i = k
  · subst e; exact hk
  · exact h i (by omega)
theorem any_true {p : Int → Bool} {zs : List Int} {k : Nat} (hk : k < zs.length) (h : p (zs.getD k 0) = true) : zs.any p = true := by
  rw [List.any_eq_true]
  refine ⟨zs[k], List.getElem_mem hk, ?_⟩
  simpa [List.getD, hk] using h
theorem NoneUpto.any {p : Int → Bool} {zs : List Int} (h : NoneUpto p zs zs.length) : zs.any p = false := by
  rw [List.any_eq_false]
  intro x hx
  obtain ⟨i, hi, rfl⟩ := List.getElem_of_mem hx
  have := h i hi
  simp [List.getD, hi] at this
  simp [this]

def RetIx (b : Bool) (w : World) (e : Ending) (w' : World) : Prop := ∃ j : Int, e = .returned (.int .i64 j) ∧ decide (0 ≤ j) = b ∧ w = w'

set_option maxRecDepth 100000 in
set_option maxHeartbeats 400000 in
theorem index_notValid (v : Value) (zs : List Int)  (w : World) (hv : RdI w v zs) (hl : zs.length ≤ 1099511627776)  : Calls Try.prog 134 #[v, .func (.func 99) #[] #[]] w (RetIx (zs.any fun z => !inB (-1000000) z 1000000) w) := by
  by_cases hn : zs = []
  · obtain ⟨ao, cap, rfl⟩ := hv.shape
    subst hn
    go_enter Try.func134, Try.ntmps134
    go_wp2
    refine wp_loop_rounds 1 ?_
    rw [rounds_succ]
    go_wp2
    go_ret
    exact ⟨-1, rfl, rfl, rfl⟩
  · obtain ⟨b, off, cap, rfl, hb, hc⟩ := hv.open hn
    have Hc := Lib.hid hc
    clear hc hv
    go_enter Try.func134, Try.ntmps134
    go_wp2
    go_loop [8] (fun i => ∃ k : Nat, k ≤ zs.length ∧ i = .int .i64 k ∧ NoneUpto (fun z => !inB (-1000000) z 1000000) zs k) (fun i => zs.length - (intOf i).toNat)
    case atStart => exact ⟨0, Nat.zero_le _, rfl, NoneUpto.zero _ _⟩
    case round =>
      obtain ⟨k, hk, rfl, hf⟩ := hrel
      by_cases hlt : k < zs.length
      · have c1 := Hc.out k hlt
        cases hx : (fun z => !inB (-1000000) z 1000000) (zs.getD k 0)
        · have H2 := Lib.hid (hf.succ hx)
          clear hf
          generalize zs.getD k 0 = z at *
          dsimp only at hx
          go_wp2_with (go_at_call 99; refine (notValid_impl _ _).mono ?_; rintro e w' ⟨rfl, rfl⟩)
          go_round
          case rel => exact ⟨k + 1, by omega, by go_num, H2.out⟩
          case measure => simp [intOf]; omega
        · have H2 := Lib.hid (any_true (p := fun z => !inB (-1000000) z 1000000) hlt hx)
          clear hf
          generalize zs.getD k 0 = z at *
          dsimp only at hx
          go_wp2_with (go_at_call 99; refine (notValid_impl _ _).mono ?_; rintro e w' ⟨rfl, rfl⟩)
          go_ret
          rw [H2.out]
          exact ⟨_, rfl, by simp, rfl⟩
      · obtain rfl : k = zs.length := by omega
        have H2 := Lib.hid hf.any
        clear hf
        go_wp2
        go_ret
        rw [H2.out]
        exact ⟨_, rfl, by simp, rfl⟩

theorem contains_notValid (v : Value) (zs : List Int)  (w : World) (hv : RdI w v zs) (hl : zs.length ≤ 1099511627776)  : Calls Try.prog 96 #[v, .func (.func 99) #[] #[]] w fun e w' => e = .returned (.bool (zs.any fun z => !inB (-1000000) z 1000000)) ∧ w = w' := by
  have C := Lib.hid (index_notValid v zs  w hv hl )
  clear hv
  go_enter Try.func96, Try.ntmps96
  go_wp2_with (go_at_call 134; refine C.out.mono ?_; rintro e w' ⟨j, rfl, hj, rfl⟩)
  all_goals
    go_ret
    exact ⟨by simp [*], rfl⟩

set_option maxRecDepth 100000 in
set_option maxHeartbeats 400000 in
theorem index_notZero (v : Value) (zs : List Int)  (w : World) (hv : RdI w v zs) (hl : zs.length ≤ 1099511627776)  : Calls Try.prog 134 #[v, .func (.func 97) #[] #[]] w (RetIx (zs.any fun z => z != 0) w) := by
  by_cases hn : zs = []
  · obtain ⟨ao, cap, rfl⟩ := hv.shape
    subst hn
    go_enter Try.func134, Try.ntmps134
    go_wp2
    refine wp_loop_rounds 1 ?_
    rw [rounds_succ]
    go_wp2
    go_ret
    exact ⟨-1, rfl, rfl, rfl⟩
  · obtain ⟨b, off, cap, rfl, hb, hc⟩ := hv.open hn
    have Hc := Lib.hid hc
    clear hc hv
    go_enter Try.func134, Try.ntmps134
    go_wp2
    go_loop [8] (fun i => ∃ k : Nat, k ≤ zs.length ∧ i = .int .i64 k ∧ NoneUpto (fun z => z != 0) zs k) (fun i => zs.length - (intOf i).toNat)
    case atStart => exact ⟨0, Nat.zero_le _, rfl, NoneUpto.zero _ _⟩
    case round =>
      obtain ⟨k, hk, rfl, hf⟩ := hrel
      by_cases hlt : k < zs.length
      · have c1 := Hc.out k hlt
        cases hx : (fun z => z != 0) (zs.getD k 0)
        · have H2 := Lib.hid (hf.succ hx)
          clear hf
          generalize zs.getD k 0 = z at *
          dsimp only at hx
          go_wp2_with (go_at_call 97; refine (notZero_impl _ _).mono ?_; rintro e w' ⟨rfl, rfl⟩)
          go_round
          case rel => exact ⟨k + 1, by omega, by go_num, H2.out⟩
          case measure => simp [intOf]; omega
        · have H2 := Lib.hid (any_true (p := fun z => z != 0) hlt hx)
          clear hf
          generalize zs.getD k 0 = z at *
          dsimp only at hx
          go_wp2_with (go_at_call 97; refine (notZero_impl _ _).mono ?_; rintro e w' ⟨rfl, rfl⟩)
          go_ret
          rw [H2.out]
          exact ⟨_, rfl, by simp, rfl⟩
      · obtain rfl : k = zs.length := by omega
        have H2 := Lib.hid hf.any
        clear hf
        go_wp2
        go_ret
        rw [H2.out]
        exact ⟨_, rfl, by simp, rfl⟩

theorem contains_notZero (v : Value) (zs : List Int)  (w : World) (hv : RdI w v zs) (hl : zs.length ≤ 1099511627776)  : Calls Try.prog 96 #[v, .func (.func 97) #[] #[]] w fun e w' => e = .returned (.bool (zs.any fun z => z != 0)) ∧ w = w' := by
  have C := Lib.hid (index_notZero v zs  w hv hl )
  clear hv
  go_enter Try.func96, Try.ntmps96
  go_wp2_with (go_at_call 134; refine C.out.mono ?_; rintro e w' ⟨j, rfl, hj, rfl⟩)
  all_goals
    go_ret
    exact ⟨by simp [*], rfl⟩

set_option maxRecDepth 100000 in
set_option maxHeartbeats 400000 in
theorem index_notOver (v : Value) (zs : List Int) (prime : Int) (cb : Nat) (w : World) (hv : RdI w v zs) (hl : zs.length ≤ 1099511627776) (hc0 : w.cell? ⟨cb, 0, none⟩ = some (.int .i64 prime)) (h1 : 0 ≤ prime) (h2 : prime ≤ 9223372036854775807) : Calls Try.prog 134 #[v, .func (.func 130) #[] #[.pointer (some ⟨cb, 0, none⟩)]] w (RetIx (zs.any fun z => !inB 0 z (prime - 1)) w) := by
  by_cases hn : zs = []
  · obtain ⟨ao, cap, rfl⟩ := hv.shape
    subst hn
    go_enter Try.func134, Try.ntmps134
    go_wp2
    refine wp_loop_rounds 1 ?_
    rw [rounds_succ]
    go_wp2
    go_ret
    exact ⟨-1, rfl, rfl, rfl⟩
  · obtain ⟨b, off, cap, rfl, hb, hc⟩ := hv.open hn
    have Hc := Lib.hid hc
    clear hc hv
    go_enter Try.func134, Try.ntmps134
    go_wp2
    go_loop [8] (fun i => ∃ k : Nat, k ≤ zs.length ∧ i = .int .i64 k ∧ NoneUpto (fun z => !inB 0 z (prime - 1)) zs k) (fun i => zs.length - (intOf i).toNat)
    case atStart => exact ⟨0, Nat.zero_le _, rfl, NoneUpto.zero _ _⟩
    case round =>
      obtain ⟨k, hk, rfl, hf⟩ := hrel
      by_cases hlt : k < zs.length
      · have c1 := Hc.out k hlt
        cases hx : (fun z => !inB 0 z (prime - 1)) (zs.getD k 0)
        · have H2 := Lib.hid (hf.succ hx)
          clear hf
          generalize zs.getD k 0 = z at *
          dsimp only at hx
          go_wp2_with (go_at_call 130; refine (notOver_impl _ _ _ _ hc0 h1 h2).mono ?_; rintro e w' ⟨rfl, rfl⟩)
          go_round
          case rel => exact ⟨k + 1, by omega, by go_num, H2.out⟩
          case measure => simp [intOf]; omega
        · have H2 := Lib.hid (any_true (p := fun z => !inB 0 z (prime - 1)) hlt hx)
          clear hf
          generalize zs.getD k 0 = z at *
          dsimp only at hx
          go_wp2_with (go_at_call 130; refine (notOver_impl _ _ _ _ hc0 h1 h2).mono ?_; rintro e w' ⟨rfl, rfl⟩)
          go_ret
          rw [H2.out]
          exact ⟨_, rfl, by simp, rfl⟩
      · obtain rfl : k = zs.length := by omega
        have H2 := Lib.hid hf.any
        clear hf
        go_wp2
        go_ret
        rw [H2.out]
        exact ⟨_, rfl, by simp, rfl⟩

theorem contains_notOver (v : Value) (zs : List Int) (prime : Int) (cb : Nat) (w : World) (hv : RdI w v zs) (hl : zs.length ≤ 1099511627776) (hc0 : w.cell? ⟨cb, 0, none⟩ = some (.int .i64 prime)) (h1 : 0 ≤ prime) (h2 : prime ≤ 9223372036854775807) : Calls Try.prog 96 #[v, .func (.func 130) #[] #[.pointer (some ⟨cb, 0, none⟩)]] w fun e w' => e = .returned (.bool (zs.any fun z => !inB 0 z (prime - 1))) ∧ w = w' := by
  have C := Lib.hid (index_notOver v zs prime cb w hv hl hc0 h1 h2)
  clear hv
  go_enter Try.func96, Try.ntmps96
  go_wp2_with (go_at_call 134; refine C.out.mono ?_; rintro e w' ⟨j, rfl, hj, rfl⟩)
  all_goals
    go_ret
    exact ⟨by simp [*], rfl⟩

set_option maxRecDepth 100000 in
set_option maxHeartbeats 400000 in
theorem index_int (v : Value) (zs : List Int) (x : Int) (w : World) (hv : RdI w v zs) (hl : zs.length ≤ 1099511627776) : Calls Try.prog 148 #[v, .int .i64 x] w (RetIx (zs.any fun z => x == z) w) := by
  by_cases hn : zs = []
  · obtain ⟨ao, cap, rfl⟩ := hv.shape
    subst hn
    go_enter Try.func148, Try.ntmps148
    go_wp2
    refine wp_loop_rounds 1 ?_
    rw [rounds_succ]
    go_wp2
    go_ret
    exact ⟨-1, rfl, rfl, rfl⟩
  · obtain ⟨b, off, cap, rfl, hb, hc⟩ := hv.open hn
    have Hc := Lib.hid hc
    clear hc hv
    go_enter Try.func148, Try.ntmps148
    go_wp2
    go_loop [8] (fun i => ∃ k : Nat, k ≤ zs.length ∧ i = .int .i64 k ∧ NoneUpto (fun z => x == z) zs k) (fun i => zs.length - (intOf i).toNat)
    case atStart => exact ⟨0, Nat.zero_le _, rfl, NoneUpto.zero _ _⟩
    case round =>
      obtain ⟨k, hk, rfl, hf⟩ := hrel
      by_cases hlt : k < zs.length
      · have c1 := Hc.out k hlt
        cases hx : (fun z => x == z) (zs.getD k 0)
        · have H2 := Lib.hid (hf.succ hx)
          clear hf
          generalize zs.getD k 0 = z at *
          dsimp only at hx
          go_wp2
          go_round
          case rel => exact ⟨k + 1, by omega, by go_num, H2.out⟩
          case measure => simp [intOf]; omega
        · have H2 := Lib.hid (any_true (p := fun z => x == z) hlt hx)
          clear hf
          generalize zs.getD k 0 = z at *
          dsimp only at hx
          go_wp2
          go_ret
          rw [H2.out]
          exact ⟨_, rfl, by simp, rfl⟩
      · obtain rfl : k = zs.length := by omega
        have H2 := Lib.hid hf.any
        clear hf
        go_wp2
        go_ret
        rw [H2.out]
        exact ⟨_, rfl, by simp, rfl⟩

theorem contains_int (v : Value) (zs : List Int) (x : Int) (w : World) (hv : RdI w v zs) (hl : zs.length ≤ 1099511627776) : Calls Try.prog 144 #[v, .int .i64 x] w fun e w' => e = .returned (.bool (zs.any fun z => x == z)) ∧ w = w' := by
  have C := Lib.hid (index_int v zs x w hv hl)
  clear hv
  go_enter Try.func144, Try.ntmps144
  go_wp2_with (go_at_call 148; refine C.out.mono ?_; rintro e w' ⟨j, rfl, hj, rfl⟩)
  all_goals
    go_ret
    exact ⟨by simp [*], rfl⟩

def primeB (p : Int) : Bool := [2, 3, 5, 7, 11, 13].any fun z => p == z
theorem primeB_iff {p : Int} : primeB p = true ↔ p = 2 ∨ p = 3 ∨ p = 5 ∨ p = 7 ∨ p = 11 ∨ p = 13 := by
  simp [primeB]

theorem isPrime_impl (p : Int) (w : World) : Calls Try.prog 121 #[.int .i64 p] w (RB (primeB p) w) := by
  have hr : RdI (w.alloc (.cells #[.int .i64 2, .int .i64 3, .int .i64 5, .int .i64 7, .int .i64 11, .int .i64 13] 2)) (.slice (some ⟨w.heap.size, 0, none⟩) 6 6) [2, 3, 5, 7, 11, 13] :=
    (OwI.of_row (B := 0) (n := 6) (World.ownsRow_lit (base := 0) (size := 1) w _ 6 (Nat.zero_le _) (by decide) rfl)).rd
  have C := Lib.hid (contains_int _ _ p _ hr (by decide))
  clear hr
  go_enter Try.func121, Try.ntmps121
  go_wp2_with (go_at_call 144; refine C.out.mono ?_; rintro e w' ⟨rfl, rfl⟩)
  go_ret
  exact ⟨by simp [primeB], (Below.refl _ _).alloc (Nat.le_refl _) _⟩

theorem prime_spec (p : Int) (w : World) : Calls Try.prog 120 #[.int .i64 p] w fun e w' => e = .returned (.bool (primeB p)) ∧ w = w' := by
  by_cases h : primeB p = true
  · have h2 := primeB_iff.1 h
    rw [h]
    clear h
    rcases h2 with rfl | rfl | rfl | rfl | rfl | rfl
    all_goals
      go_enter Try.func120, Try.ntmps120
      go_wp2
      go_ret
      exact ⟨rfl, rfl⟩
  · have hf : primeB p = false := by simpa using h
    rw [primeB_iff] at h
    rw [hf]
    clear hf
    have e1 : (p == 2) = false := by simp; omega
    have e2 : (p == 3) = false := by simp; omega
    have e3 : (p == 5) = false := by simp; omega
    have e4 : (p == 7) = false := by simp; omega
    have e5 : (p == 11) = false := by simp; omega
    have e6 : (p == 13) = false := by simp; omega
    clear h
    go_enter Try.func120, Try.ntmps120
    go_wp2
    go_ret
    exact ⟨rfl, rfl⟩

end Go.Proofs.Ytlnjkjogedbhfaa
