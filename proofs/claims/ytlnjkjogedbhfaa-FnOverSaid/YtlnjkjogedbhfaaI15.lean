/- The greatest common one over a prime: both exported functions. Conditions: lengths of at most 2^40. -/
import Derived.Test.YtlnjkjogedbhfaaI14
namespace Go.Proofs.Ytlnjkjogedbhfaa
open Go Go.RowKit
set_option linter.unusedSimpArgs false
set_option linter.unusedVariables false

theorem ovr_valid {m : Int} {zs : List Int} (h : Ovr m zs) (hm : m ≤ 13) (hl : zs.length ≤ 17) : validB zs = true := by
  have h1 := h.trd
  simp only [validB, Bool.and_eq_true, Bool.or_eq_true, decide_eq_true_eq, bne_iff_ne, Bool.not_eq_true']
  refine ⟨⟨⟨h1.1, hl⟩, h1.2⟩, List.any_eq_false.2 fun z hz => ?_⟩
  obtain ⟨i, hi, rfl⟩ := List.getElem_of_mem hz
  have h2 := h.ov i
  have e : zs.getD i 0 = zs[i] := by simp [List.getD, hi]
  rw [e] at h2
  simp [inB]
  omega
theorem gcdZ_len {m : Int} (hm : primeB m = true) {N : Nat} (hN : 1 ≤ N) : ∀ {n : Nat} {a b : List Int}, meas b < n → Ovr m a → Ovr m b → a.length ≤ N → b.length ≤ N → (gcdZ m a b).length ≤ N
  | 0, _, _, h, _, _, _, _ => absurd h (by omega)
  | n + 1, a, b, h, ha, hb, la, lb => by
    cases hz : zeroB b
    · rw [gcdZ_step hb.ne hz]
      have hd := divF_ovr hm ha hb hz
      refine gcdZ_len hm hN (n := n) (by have := divF_rest_length a b m hb.ne hz; omega) hb hd.2.1 lb ?_
      rcases hd.2.2.1 with h1 | h1 <;> omega
    · rw [gcdZ_stop hz]; exact la
def overB (m : Int) (zs : List Int) : Bool := primeB m && overZ m zs
theorem overB_ovr {m : Int} {zs : List Int} (h : overB m zs = true) : primeB m = true ∧ Ovr m zs ∧ zs.length ≤ 17 := by
  simp only [overB, Bool.and_eq_true] at h
  have := primeB_bd h.1
  exact ⟨h.1, overZ_ovr (by omega) h.2⟩
theorem areOverB_two {m : Int} {a b : List Int} : areOverB m [a, b] = (overB m a && overB m b) := by
  simp only [areOverB, overB, List.any_cons, List.any_nil]
  cases primeB m <;> cases overZ m a <;> cases overZ m b <;> rfl
theorem areOverB_one {m : Int} {a : List Int} : areOverB m [a] = overB m a := by
  simp only [areOverB, overB, List.any_cons, List.any_nil]
  cases primeB m <;> cases overZ m a <;> rfl
/-- What both say. -/
def commonR (m : Int) (a b : List Int) : List Int × Bool := if overB m a && overB m b then (monicS m (gcdZ m a b), true) else ([], false)
theorem giveF_valid {zs : List Int} (h : validB zs = true) : giveF zs = (zs, true) := by rw [giveF, h]; rfl

set_option maxRecDepth 100000 in
set_option maxHeartbeats 800000 in
theorem over_spec (b : Nat) (v : Value) (zs : List Int) (m : Int) (w : World) (hp : w.cell? ⟨b, 0, none⟩ = some v) (hv : RdI w v zs) (hl : zs.length ≤ 1099511627776) : Calls Try.prog 68 #[.pointer (some ⟨b, 0, none⟩), .int .i64 m] w fun e w' => e = .returned (.bool (overB m zs)) ∧ w = w' := by
  have Hv := Lib.hid hv
  obtain ⟨ao, cap, rfl⟩ := hv.shape
  have Hp := Lib.hid hp
  clear hv
  cases hm : primeB m
  · have Ho := Lib.hid (show overB m zs = false by rw [overB, hm]; rfl)
    go_enter Try.func68, Try.ntmps68
    go_wp2_with fail
    (go_at_call 120; ((with_reducible refine (prime_spec _ _).mono ?_); rintro e w' ⟨rfl, rfl⟩))
    go_wp2_with fail
    go_ret
    rw [Ho.out]
    exact ⟨rfl, rfl⟩
  · have hmp := primeB_bd hm
    cases hq : validB zs
    · have Ho := Lib.hid (show overB m zs = false by rw [overB, hm, overZ, hq]; rfl)
      go_enter Try.func68, Try.ntmps68
      go_wp2_with fail
      (go_at_call 120; ((with_reducible refine (prime_spec _ _).mono ?_); rintro e w' ⟨rfl, rfl⟩))
      go_wp2_with fail
      (go_at_call 65; ((with_reducible refine (is_spec b _ zs _ Hp.out Hv.out hl).mono ?_); rintro e w' ⟨rfl, rfl⟩))
      go_wp2_with fail
      go_ret
      rw [Ho.out]
      exact ⟨rfl, rfl⟩
    · have Ho := Lib.hid (show overB m zs = !(zs.any fun z => !inB 0 z (m - 1)) by rw [overB, hm, overZ, hq]; rfl)
      have hne := (validB_ne hq).1
      obtain ⟨b2, off, cap2, he, hb2, hc⟩ := Hv.out.open hne
      simp only [Value.slice.injEq] at he
      obtain ⟨rfl, _, rfl⟩ := he
      have Hc := Lib.hid hc
      clear hc
      go_enter Try.func68, Try.ntmps68
      go_wp2_with fail
      (go_at_call 120; ((with_reducible refine (prime_spec _ _).mono ?_); rintro e w' ⟨rfl, rfl⟩))
      go_wp2_with fail
      (go_at_call 65; ((with_reducible refine (is_spec b _ zs _ Hp.out Hv.out hl).mono ?_); rintro e w' ⟨rfl, rfl⟩))
      go_wp2_with fail
      clear hm hq
      go_loop [5, 19] (fun x i => ∃ k : Nat, k ≤ zs.length ∧ i = .int .i64 k ∧ NoneUpto (fun z => !inB 0 z (m - 1)) zs k) (fun _ i => zs.length - (intOf i).toNat)
      case atStart => exact ⟨0, Nat.zero_le _, rfl, NoneUpto.zero _ _⟩
      case round =>
        obtain ⟨k, hk, rfl, hf⟩ := hrel
        by_cases hlt : k < zs.length
        · have c1 := Hc.out k hlt
          cases hx : (fun z => !inB 0 z (m - 1)) (zs.getD k 0)
          · have H2 := Lib.hid (hf.succ hx)
            clear hf
            generalize zs.getD k 0 = z at *
            dsimp only at hx
            go_wp2_with (go_at_call 109; refine (in_spec _ _ _ _).mono ?_; rintro e w' ⟨rfl, rfl⟩)
            go_round
            case rel => exact ⟨k + 1, by omega, by go_num, H2.out⟩
            case measure => simp [intOf]; omega
          · have H2 := Lib.hid (any_true (p := fun z => !inB 0 z (m - 1)) hlt hx)
            clear hf
            generalize zs.getD k 0 = z at *
            dsimp only at hx
            go_wp2_with (go_at_call 109; refine (in_spec _ _ _ _).mono ?_; rintro e w' ⟨rfl, rfl⟩)
            go_ret
            rw [Ho.out, H2.out]
            exact ⟨rfl, rfl⟩
        · obtain rfl : k = zs.length := by omega
          have H2 := Lib.hid hf.any
          clear hf
          go_wp2
          go_ret
          rw [Ho.out, H2.out]
          exact ⟨rfl, rfl⟩

end Go.Proofs.Ytlnjkjogedbhfaa
