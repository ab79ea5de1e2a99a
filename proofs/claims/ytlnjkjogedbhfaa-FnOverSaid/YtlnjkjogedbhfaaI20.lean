/- Greatest common divisors, contents: plain laws and walks. Conditions: numbers of at most 10^15. -/
import Derived.Test.YtlnjkjogedbhfaaI13
import Derived.RegionTactic
namespace Go.Proofs.Ytlnjkjogedbhfaa
open Go Go.RowKit
set_option linter.unusedSimpArgs false
set_option linter.unusedVariables false

theorem OwI.litS {w : World} {B s : Nat} {z : Int} (hs : s = w.heap.size) (h : B ≤ s) : OwI (w.alloc (.cells #[.int .i64 z] 2)) B (.slice (some ⟨s, 0, none⟩) 1 1) [z] := by
  subst hs
  exact (OwI.of_row (n := 1) (World.ownsRow_lit (base := w.heap.size) (size := 1) w #[.int .i64 z] 1 (Nat.le_refl _) (by decide) rfl)).mono h
theorem ret_int {k : IntKind} {a b : Int} (h : a = b) : Ending.returned (.int k a) = .returned (.int k b) := by rw [h]
def gcZ (a b : Int) : Int := ((Int.gcd a b : Nat) : Int)
theorem gcd_tmod (a b : Int) : Int.gcd b (a.tmod b) = Int.gcd a b := by
  show Nat.gcd b.natAbs (a.tmod b).natAbs = Nat.gcd a.natAbs b.natAbs
  rw [Int.natAbs_tmod, Nat.gcd_comm, ← Nat.gcd_rec, Nat.gcd_comm]
theorem gcZ_step (a b : Int) : gcZ b (a.tmod b) = gcZ a b := by rw [gcZ, gcd_tmod, gcZ]
theorem gcZ_stop (a : Int) : gcZ a 0 = max a (-a) := by
  unfold gcZ
  rw [Int.gcd_zero_right]
  omega
theorem gcZ_neg_left (a b : Int) : gcZ (-a) b = gcZ a b := by unfold gcZ; rw [Int.neg_gcd]
theorem gcZ_neg_right (a b : Int) : gcZ a (-b) = gcZ a b := by unfold gcZ; rw [Int.gcd_neg]
theorem tmod_lt_natAbs {a b : Int} (h : b ≠ 0) : (a.tmod b).natAbs < b.natAbs := by
  rw [Int.natAbs_tmod]
  exact Nat.mod_lt _ (by omega)
theorem gcZ_nonneg (a b : Int) : 0 ≤ gcZ a b := Int.natCast_nonneg _
theorem gcZ_le {a b M : Int} (ha : -M ≤ a ∧ a ≤ M) (hb : -M ≤ b ∧ b ≤ M) : gcZ a b ≤ M := by
  unfold gcZ
  by_cases h : b = 0
  · subst h
    rw [Int.gcd_zero_right]
    omega
  · have h1 : Int.gcd a b ∣ b.natAbs := Nat.gcd_dvd_right a.natAbs b.natAbs
    have h2 := Nat.le_of_dvd (by omega) h1
    omega

set_option maxRecDepth 100000 in
theorem gcd_impl (a b : Int) (w : World) (ha : -1000000000000000 ≤ a ∧ a ≤ 1000000000000000) (hb : -1000000000000000 ≤ b ∧ b ≤ 1000000000000000) : Calls Try.prog 111 #[.int .i64 a, .int .i64 b] w (RZ (gcZ a b) w) := by
  go_enter Try.func111, Try.ntmps111
  go_wp2
  go_loopw [0, 1] (fun p q wr => ∃ x y : Int, p = .int .i64 x ∧ q = .int .i64 y ∧ (-1000000000000000 ≤ x ∧ x ≤ 1000000000000000) ∧ (-1000000000000000 ≤ y ∧ y ≤ 1000000000000000) ∧ gcZ x y = gcZ a b ∧ Below w.heap.size w wr) (fun _ q _ => (intOf q).natAbs)
  case atStart => exact ⟨a, b, rfl, rfl, ha, hb, rfl, Below.refl _ _⟩
  case round =>
    obtain ⟨x, y, rfl, rfl, hx, hy, hg, hbel⟩ := hrel
    have Hg := Lib.hid hg
    clear hg
    by_cases h0 : y = 0
    · subst h0
      have Hs := Lib.hid (gcZ_stop x)
      go_wp2
      all_goals
        go_ret
        rw [← Hg.out, Hs.out]
        exact ⟨ret_int (by omega), hbel⟩
    · have h1 := tmod_lt_natAbs (a := x) h0
      have h2 : -1000000000000000 ≤ x.tmod y ∧ x.tmod y ≤ 1000000000000000 := by omega
      have Hst := Lib.hid (gcZ_step x y)
      have Hlt := Lib.hid h1
      clear h1
      go_wp2
      go_region
      go_wp2
      go_roundw
      case rel => exact ⟨y, x.tmod y, rfl, rfl, hy, h2, by rw [Hst.out]; exact Hg.out, by (repeat' (first | (with_reducible exact Below.refl _ _) | (with_reducible assumption) | (with_reducible refine Below.alloc ?_ ?_ _) | (with_reducible refine Below.setCell ?_ ?_ _) | (with_reducible refine Below.drew ?_) | (with_reducible refine Below.via (by assumption) ?_ ?_) | go_size))⟩
      case measure => simpa [intOf] using Hlt.out

set_option maxRecDepth 100000 in
theorem gcd_spec (a b : Int) (w : World) (ha : -1000000000000000 ≤ a ∧ a ≤ 1000000000000000) (hb : -1000000000000000 ≤ b ∧ b ≤ 1000000000000000) : Calls Try.prog 135 #[.int .i64 a, .int .i64 b] w fun e w' => e = .returned (.int .i64 (gcZ a b)) ∧ w = w' := by
  by_cases h1 : a < 0 <;> by_cases h2 : b < 0
  all_goals
    go_enter Try.func135, Try.ntmps135
    go_wp2
    go_loop [0, 1] (fun p q => ∃ x y : Int, p = .int .i64 x ∧ q = .int .i64 y ∧ (0 ≤ x ∧ x ≤ 1000000000000000) ∧ (0 ≤ y ∧ y ≤ 1000000000000000) ∧ gcZ x y = gcZ a b) (fun _ q => (intOf q).natAbs)
    case atStart => first | exact ⟨-a, -b, rfl, rfl, by omega, by omega, by rw [gcZ_neg_left, gcZ_neg_right]⟩ | exact ⟨-a, b, rfl, rfl, by omega, by omega, by rw [gcZ_neg_left]⟩ | exact ⟨a, -b, rfl, rfl, by omega, by omega, by rw [gcZ_neg_right]⟩ | exact ⟨a, b, rfl, rfl, by omega, by omega, rfl⟩
    case round =>
      obtain ⟨x, y, rfl, rfl, hx, hy, hg⟩ := hrel
      have Hg := Lib.hid hg
      clear hg
      by_cases h0 : y = 0
      · subst h0
        have Hs := Lib.hid (show gcZ x 0 = x by rw [gcZ_stop]; omega)
        go_wp2
        go_ret
        rw [← Hg.out, Hs.out]
        exact ⟨rfl, rfl⟩
      · have h3 : 0 < y := by omega
        have h4 : 0 ≤ x % y ∧ x % y < y := ⟨Int.emod_nonneg _ h0, Int.emod_lt_of_pos _ h3⟩
        have Hst := Lib.hid (show gcZ y (x % y) = gcZ x y by rw [← Int.tmod_eq_emod_of_nonneg hx.1]; exact gcZ_step x y)
        go_wp2
        go_round
        case rel => exact ⟨y, x % y, rfl, rfl, by omega, by omega, by rw [Hst.out]; exact Hg.out⟩
        case measure => simp [intOf] <;> omega

/-! Contents. -/
def contN (zs : List Int) : Nat → Int
  | 0 => 0
  | k + 1 => gcZ (contN zs k) (zs.getD k 0)
def contZ (zs : List Int) : Int := contN zs zs.length
theorem contN_bd {zs : List Int} {M : Int} (hM : 0 ≤ M) (h : BdI M zs) : ∀ k, 0 ≤ contN zs k ∧ contN zs k ≤ M
  | 0 => ⟨Int.le_refl _, hM⟩
  | k + 1 => by
    have ih := contN_bd hM h k
    exact ⟨gcZ_nonneg _ _, gcZ_le ⟨by omega, ih.2⟩ (h k)⟩
set_option maxRecDepth 100000 in
theorem content_impl (v : Value) (zs : List Int) (w : World) (hv : RdI w v zs) (hl : zs.length ≤ 1099511627776) (hbd : BdI 1000000 zs) : Calls Try.prog 101 #[v] w (RZ (contZ zs) w) := by
  have Hv := Lib.hid hv
  have Hbd := Lib.hid hbd
  have Hd := Lib.hid (show contZ zs = contN zs zs.length from rfl)
  obtain ⟨ao, cap, rfl⟩ := hv.shape
  clear hv hbd
  go_enter Try.func101, Try.ntmps101
  go_wp2
  go_loopw [3, 8] (fun g i wr => ∃ k : Nat, k ≤ zs.length ∧ i = .int .i64 k ∧ g = .int .i64 (contN zs k) ∧ Below w.heap.size w wr) (fun _ i _ => zs.length - (intOf i).toNat)
  case atStart => exact ⟨0, Nat.zero_le _, rfl, rfl, Below.refl _ _⟩
  case round =>
    obtain ⟨k, hk, rfl, rfl, hbel⟩ := hrel
    have hg := contN_bd (by omega) Hbd.out k
    have hsz := hbel.size
    by_cases hlt : k < zs.length
    · have hne : zs ≠ [] := by rintro rfl; simp at hlt
      obtain ⟨b, off, cap', hve, hbs, hc⟩ := (Hv.out.below hbel).open hne
      simp only [Value.slice.injEq] at hve
      obtain ⟨rfl, _, rfl⟩ := hve
      have c1 := hc k hlt
      have hz := Hbd.out k
      have Hn := Lib.hid (show contN zs (k + 1) = gcZ (contN zs k) (zs.getD k 0) from rfl)
      clear hc
      generalize zs.getD k 0 = z at *
      generalize contN zs k = g at *
      go_wp2_with fail
      (go_at_call 111; ((with_reducible refine (gcd_impl g z _ ⟨by omega, by omega⟩ ⟨by omega, by omega⟩).mono ?_); rintro e w' ⟨rfl, hb1⟩))
      go_wp2_with fail
      go_roundw
      case rel => exact ⟨k + 1, by omega, by go_num, by rw [Hn.out], by (repeat' (first | (with_reducible exact Below.refl _ _) | (with_reducible assumption) | (with_reducible refine Below.alloc ?_ ?_ _) | (with_reducible refine Below.setCell ?_ ?_ _) | (with_reducible refine Below.drew ?_) | (with_reducible refine Below.via (by assumption) ?_ ?_) | go_size))⟩
      case measure => simp [intOf]; omega
    · obtain rfl : k = zs.length := by omega
      go_wp2
      go_ret
      rw [Hd.out]
      exact ⟨rfl, hbel⟩

set_option maxRecDepth 100000 in
theorem content_spec (v : Value) (zs : List Int) (w : World) (hv : RdI w v zs) (hl : zs.length ≤ 1099511627776) (hbd : BdI 1000000 zs) : Calls Try.prog 136 #[v] w fun e w' => e = .returned (.int .i64 (contZ zs)) ∧ w = w' := by
  have Hv := Lib.hid hv
  have Hbd := Lib.hid hbd
  have Hd := Lib.hid (show contZ zs = contN zs zs.length from rfl)
  obtain ⟨ao, cap, rfl⟩ := hv.shape
  clear hv hbd
  go_enter Try.func136, Try.ntmps136
  go_wp2
  go_loop [3, 7] (fun g i => ∃ k : Nat, k ≤ zs.length ∧ i = .int .i64 k ∧ g = .int .i64 (contN zs k)) (fun _ i => zs.length - (intOf i).toNat)
  case atStart => exact ⟨0, Nat.zero_le _, rfl, rfl⟩
  case round =>
    obtain ⟨k, hk, rfl, rfl⟩ := hrel
    have hg := contN_bd (by omega) Hbd.out k
    
    by_cases hlt : k < zs.length
    · have hne : zs ≠ [] := by rintro rfl; simp at hlt
      obtain ⟨b, off, cap', hve, hbs, hc⟩ := Hv.out.open hne
      simp only [Value.slice.injEq] at hve
      obtain ⟨rfl, _, rfl⟩ := hve
      have c1 := hc k hlt
      have hz := Hbd.out k
      have Hn := Lib.hid (show contN zs (k + 1) = gcZ (contN zs k) (zs.getD k 0) from rfl)
      clear hc
      generalize zs.getD k 0 = z at *
      generalize contN zs k = g at *
      go_wp2_with fail
      (go_at_call 135; ((with_reducible refine (gcd_spec g z _ ⟨by omega, by omega⟩ ⟨by omega, by omega⟩).mono ?_); rintro e w' ⟨rfl, rfl⟩))
      go_wp2_with fail
      go_round
      case rel => exact ⟨k + 1, by omega, by go_num, by rw [Hn.out]⟩
      case measure => simp [intOf]; omega
    · obtain rfl : k = zs.length := by omega
      go_wp2
      go_ret
      rw [Hd.out]
      exact ⟨rfl, rfl⟩

end Go.Proofs.Ytlnjkjogedbhfaa
