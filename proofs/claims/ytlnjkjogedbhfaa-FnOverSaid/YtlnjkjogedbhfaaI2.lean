/- Whether a list of integers is a whole, as the program and as the reference tell it. Conditions: lengths of at most 2^40. -/
import Derived.Test.YtlnjkjogedbhfaaI1
namespace Go.Proofs.Ytlnjkjogedbhfaa
open Go Go.RowKit
set_option linter.unusedSimpArgs false
set_option linter.unusedVariables false

/-- The terms of a whole. -/
def validB (zs : List Int) : Bool := decide (1 ≤ zs.length) && decide (zs.length ≤ 17) && (decide (zs.length ≤ 1) || zs.getD (zs.length - 1) 0 != 0) && !zs.any fun z => !inB (-1000000) z 1000000

set_option maxRecDepth 100000 in
set_option maxHeartbeats 400000 in
theorem valid_impl (v : Value) (zs : List Int) (w : World) (hv : RdI w v zs) (hl : zs.length ≤ 1099511627776) : Calls Try.prog 24 #[.agg #[v]] w (RB (validB zs) w) := by
  have C := Lib.hid (contains_notValid v zs _ (hv.alloc (.cells #[v] 27)) hl)
  have B0 := Lib.hid ((Below.refl w.heap.size w).alloc (Nat.le_refl _) (.cells #[v] 27))
  by_cases h1 : zs.length < 1
  · obtain ⟨ao, cap, rfl⟩ := hv.shape
    have hd : validB zs = false := by simp [validB]; omega
    rw [hd]
    go_enter Try.func24, Try.ntmps24
    go_wp2
    go_ret
    exact ⟨rfl, B0.out⟩
  by_cases h2 : 17 < zs.length
  · obtain ⟨ao, cap, rfl⟩ := hv.shape
    have hd : validB zs = false := by simp [validB]; omega
    rw [hd]
    go_enter Try.func24, Try.ntmps24
    go_wp2
    go_ret
    exact ⟨rfl, B0.out⟩
  obtain ⟨b, off, cap, rfl, hb, hc⟩ := hv.open (by rintro rfl; simp at h1)
  have c1 := hc (zs.length - 1) (by omega)
  clear hc hv
  by_cases h3 : 1 < zs.length
  · by_cases h4 : zs.getD (zs.length - 1) 0 = 0
    · have hd : validB zs = false := by
        have e1 : decide (zs.length ≤ 1) = false := by simp; omega
        have e2 : (zs.getD (zs.length - 1) 0 != 0) = false := by rw [h4]; rfl
        simp only [validB, e1, e2]; simp
      rw [hd]
      rw [h4] at c1
      clear h4 hd C
      go_enter Try.func24, Try.ntmps24
      go_wp2
      go_ret
      exact ⟨rfl, B0.out⟩
    · have hd : validB zs = !zs.any fun z => !inB (-1000000) z 1000000 := by
        have e : (zs.getD (zs.length - 1) 0 != 0) = true := by simpa using h4
        simp only [validB, e]; simp; omega
      rw [hd]
      clear hd
      generalize (zs.any fun z => !inB (-1000000) z 1000000) = q at *
      generalize zs.getD (zs.length - 1) 0 = z at *
      have h5 : (z == 0) = false := by simpa using h4
      go_enter Try.func24, Try.ntmps24
      go_wp2_with (go_at_call 96; refine C.out.mono ?_; rintro e w' ⟨rfl, rfl⟩)
      go_ret
      exact ⟨rfl, B0.out⟩
  · have hd : validB zs = !zs.any fun z => !inB (-1000000) z 1000000 := by
      have e : decide (zs.length ≤ 1) = true := by simp; omega
      simp only [validB, e]; simp; omega
    rw [hd]
    clear hd
    generalize (zs.any fun z => !inB (-1000000) z 1000000) = q at *
    go_enter Try.func24, Try.ntmps24
    go_wp2_with (go_at_call 96; refine C.out.mono ?_; rintro e w' ⟨rfl, rfl⟩)
    go_ret
    exact ⟨rfl, B0.out⟩

set_option maxRecDepth 100000 in
set_option maxHeartbeats 400000 in
theorem terms_spec (v : Value) (zs : List Int) (w : World) (hv : RdI w v zs) (hl : zs.length ≤ 1099511627776) : Calls Try.prog 125 #[v] w fun e w' => e = .returned (.bool (validB zs)) ∧ w = w' := by
  by_cases h1 : zs.length < 1
  · obtain ⟨ao, cap, rfl⟩ := hv.shape
    have hd : validB zs = false := by simp [validB]; omega
    rw [hd]
    go_enter Try.func125, Try.ntmps125
    go_wp2
    go_ret
    exact ⟨rfl, rfl⟩
  by_cases h2 : 17 < zs.length
  · obtain ⟨ao, cap, rfl⟩ := hv.shape
    have hd : validB zs = false := by simp [validB]; omega
    rw [hd]
    go_enter Try.func125, Try.ntmps125
    go_wp2
    go_ret
    exact ⟨rfl, rfl⟩
  obtain ⟨b, off, cap, rfl, hb, hc⟩ := hv.open (by rintro rfl; simp at h1)
  have Hc := Lib.hid hc
  clear hc hv
  go_enter Try.func125, Try.ntmps125
  go_wp2
  go_loop [15] (fun i => ∃ k : Nat, k ≤ zs.length ∧ i = .int .i64 k ∧ NoneUpto (fun z => !inB (-1000000) z 1000000) zs k) (fun i => zs.length - (intOf i).toNat)
  case atStart => exact ⟨0, Nat.zero_le _, rfl, NoneUpto.zero _ _⟩
  case round =>
    obtain ⟨k, hk, rfl, hf⟩ := hrel
    by_cases hlt : k < zs.length
    · have c1 := Hc.out k hlt
      cases hx : (fun z => !inB (-1000000) z 1000000) (zs.getD k 0)
      · have H2 := Lib.hid (hf.succ hx)
        clear hf
        generalize zs.getD k 0 = z at *
        dsimp only at hx
        go_wp2_with (go_at_call 109; refine (in_spec _ _ _ _).mono ?_; rintro e w' ⟨rfl, rfl⟩)
        go_round
        case rel => exact ⟨k + 1, by omega, by go_num, H2.out⟩
        case measure => simp [intOf]; omega
      · have H2 := Lib.hid (any_true (p := fun z => !inB (-1000000) z 1000000) hlt hx)
        have hd : validB zs = false := by simp only [validB, H2.out]; simp
        clear hf
        generalize zs.getD k 0 = z at *
        dsimp only at hx
        go_wp2_with (go_at_call 109; refine (in_spec _ _ _ _).mono ?_; rintro e w' ⟨rfl, rfl⟩)
        go_ret
        rw [hd]
        exact ⟨rfl, rfl⟩
    · obtain rfl : k = zs.length := by omega
      have H2 := hf.any
      have c1 := Hc.out (zs.length - 1) (by omega)
      clear hf
      by_cases h3 : 1 < zs.length
      · have hd : validB zs = (zs.getD (zs.length - 1) 0 != 0) := by
          have e : decide (zs.length ≤ 1) = false := by simp; omega
          simp only [validB, H2, e]; simp; omega
        clear H2
        generalize zs.getD (zs.length - 1) 0 = z at *
        have h6 : ((zs.length : Int) == 1) = false := by simp; omega
        have HD := Lib.hid hd
        clear hd
        go_wp2
        go_ret
        rw [HD.out]
        exact ⟨by simp [h6, Frame.tmps], rfl⟩
      · have hd : validB zs = true := by
          have e : decide (zs.length ≤ 1) = true := by simp; omega
          simp only [validB, H2, e]; simp; omega
        clear H2
        have HD := Lib.hid hd
        clear hd
        go_wp2
        go_ret
        rw [HD.out]
        exact ⟨rfl, rfl⟩

set_option maxRecDepth 100000 in
/-- At a whole in memory. -/
theorem is_spec (b : Nat) (v : Value) (zs : List Int) (w : World) (hp : w.cell? ⟨b, 0, none⟩ = some v) (hv : RdI w v zs) (hl : zs.length ≤ 1099511627776) : Calls Try.prog 65 #[.pointer (some ⟨b, 0, none⟩)] w fun e w' => e = .returned (.bool (validB zs)) ∧ w = w' := by
  have C := Lib.hid (terms_spec v zs w hv hl)
  obtain ⟨ao, cap, rfl⟩ := hv.shape
  clear hv
  go_enter Try.func65, Try.ntmps65
  go_wp2_with (go_at_call 125; refine C.out.mono ?_; rintro e w' ⟨rfl, rfl⟩)
  go_ret
  exact ⟨rfl, rfl⟩

/-- Without zeros at the end, but for one. -/
def trimTo (zs : List Int) : Nat → Nat
  | 0 => 0
  | 1 => 1
  | n + 2 => if zs.getD (n + 1) 0 = 0 then trimTo zs (n + 1) else n + 2
def trimN (zs : List Int) : Nat := trimTo zs zs.length
def trimZ (zs : List Int) : List Int := zs.take (trimN zs)
/-- As the reference trims. -/
def trimS (zs : List Int) : List Int := if zs = [] then [0] else trimZ zs
theorem trimTo_le (zs : List Int) : ∀ n, trimTo zs n ≤ n
  | 0 => Nat.le_refl _
  | 1 => Nat.le_refl _
  | n + 2 => by
    have := trimTo_le zs (n + 1)
    unfold trimTo
    split <;> omega
theorem trimN_le (zs : List Int) : trimN zs ≤ zs.length := trimTo_le zs _
theorem trimTo_step {zs : List Int} {n : Nat} (h1 : 1 < n) (h2 : zs.getD (n - 1) 0 = 0) : trimTo zs n = trimTo zs (n - 1) := by
  obtain ⟨m, rfl⟩ : ∃ m, n = m + 2 := ⟨n - 2, by omega⟩
  simp only [trimTo, Nat.add_sub_cancel] at h2 ⊢
  rw [if_pos (by simpa using h2)]
  rfl
theorem trimTo_end {zs : List Int} {n : Nat} (h : ¬ (1 < n ∧ zs.getD (n - 1) 0 = 0)) : trimTo zs n = n := by
  match n with
  | 0 => rfl
  | 1 => rfl
  | n + 2 =>
    simp only [trimTo]
    rw [if_neg]
    intro h2
    exact h ⟨by omega, by simpa using h2⟩
theorem trimZ_length (zs : List Int) : (trimZ zs).length = trimN zs := by
  have := trimN_le zs
  simp [trimZ]; omega

end Go.Proofs.Ytlnjkjogedbhfaa
