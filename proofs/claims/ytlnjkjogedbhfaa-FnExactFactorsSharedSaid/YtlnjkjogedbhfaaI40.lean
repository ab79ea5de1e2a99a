/- Factors over a prime: the reference's small functions. Conditions: a prime. -/
import Derived.Test.YtlnjkjogedbhfaaI39
import Derived.Test.YtlnjkjogedbhfaaI16
namespace Go.Proofs.Ytlnjkjogedbhfaa
open Go Go.RowKit
set_option linter.unusedSimpArgs false
set_option linter.unusedVariables false

set_option maxRecDepth 100000 in
set_option maxHeartbeats 800000 in
theorem monic_own (v : Value) (zs : List Int) (m : Int) (w : World) (hv : RdI w v zs) (hne : zs ≠ []) (hl : zs.length ≤ 100) (hov : OvI m zs) (hm : primeB m = true) (hz0 : zeroB zs = false) : Calls Try.prog 126 #[v, .int .i64 m] w (RL (monicS m zs) w) := by
  have hmp := primeB_bd hm
  have hn1 : 0 < zs.length := List.length_pos_iff.2 hne
  have Hv := Lib.hid hv
  obtain ⟨b, off, cap, rfl, hb, hc⟩ := hv.open hne
  have Hc := Lib.hid (fun (w' : World) (h : Below w.heap.size w w') i (hi : i < zs.length) => (h.cell (p := ⟨b, off + i, none⟩) hb).trans (hc i hi))
  have hlz : 0 ≤ lastZ zs ∧ lastZ zs < m := hov (zs.length - 1)
  have c0 := hc (zs.length - 1) (by omega)
  rw [← lastZ] at c0
  have hi0 := invZ_bd (lastZ zs) m (by omega)
  clear hc hv
  have hz := hz0
  clear hz0
  · have Hd := Lib.hid (show monicS m zs = buildZ (fun k => (zs.getD k 0 * invZ (lastZ zs) m) % m) zs.length by rw [build_map (fun z => (z * invZ (lastZ zs) m) % m), monicS, hz]; rfl)
    generalize lastZ zs = lz at *
    go_enter Try.func126, Try.ntmps126
    go_wp2_with fail
    (go_at_call 123; ((with_reducible refine (zero_spec _ zs _ Hv.out (by omega)).mono ?_); rintro e w' ⟨rfl, rfl⟩))
    go_wp2_with fail
    (go_at_call 127; ((with_reducible refine (inverse_spec _ _ _ (by omega) (by omega) (by omega) (by omega)).mono ?_); rintro e w' ⟨rfl, rfl⟩))
    clear hz
    go_wp2
    go_loopw [6, 22] (fun ov i wr => ∃ k : Nat, k ≤ zs.length ∧ i = .int .i64 k ∧ RowI wr w.heap.size ov (buildZ (fun k => (zs.getD k 0 * invZ lz m) % m) k) ∧ Below w.heap.size w wr) (fun _ i _ => zs.length - (intOf i).toNat)
    case atStart => exact ⟨0, Nat.zero_le _, rfl, RowI.emptyB (by simp) (by simp <;> omega), by (repeat' (first | (with_reducible exact Below.refl _ _) | (with_reducible assumption) | (with_reducible refine Below.alloc ?_ ?_ _) | (with_reducible refine Below.setCell ?_ ?_ _) | (with_reducible refine Below.drew ?_) | (with_reducible refine Below.via (by assumption) ?_ ?_) | go_size))⟩
    case round =>
      obtain ⟨k, hk, rfl, hrow, hbel⟩ := hrel
      by_cases hlt : k < zs.length
      · have hsz := hbel.size
        have hlen : (buildZ (fun k => (zs.getD k 0 * invZ lz m) % m) k).length ≤ 1099511627776 := by rw [buildZ_length]; omega
        have Hn := Lib.hid (show buildZ (fun k => (zs.getD k 0 * invZ lz m) % m) k ++ [(zs.getD k 0 * invZ lz m) % m] = buildZ (fun k => (zs.getD k 0 * invZ lz m) % m) (k + 1) from buildZ_succ _ k)
        have c1 := Hc.out wr hbel k hlt
        have hz := hov k
        have hp := mul_small (x := zs.getD k 0) (k := invZ lz m) (by omega) (by omega) (by omega) (by omega)
        generalize zs.getD k 0 = z at *
        generalize invZ lz m = inv at *
        go_wp2_with (at_builtin; refine wpList_pushI hrow rfl _ _ rfl int64S_under hlen (by first | omega | (simp only [World.size_alloc]; omega)) rfl rfl ?_; intro v1 w1 hr1 hb1)
        go_roundw
        case rel => exact ⟨k + 1, by omega, by go_num, by rw [← Hn.out]; exact hr1, hbel.trans (hb1.mono (by omega))⟩
        case measure => simp [intOf]; omega
      · obtain rfl : k = zs.length := by omega
        have hsz := hbel.size
        have Hrow := Lib.hid hrow
        clear hrow
        go_wp2_with fail
        go_ret
        rw [Hd.out]
        exact ⟨_, rfl, Hrow.out.own, hbel⟩

theorem befB_len {a b : List Int} (h : a.length ≠ b.length) : befB a b = decide (a.length < b.length) := if_neg h
theorem befB_go {a b : List Int} (h : a.length = b.length) : befB a b = befGo a b a.length := if_pos h
set_option maxRecDepth 100000 in
set_option maxHeartbeats 4000000 in
theorem before_spec (va vb : Value) (a b : List Int) (w : World) (ha : RdI w va a) (hb : RdI w vb b) (hna : a ≠ []) (hnb : b ≠ []) (hla : a.length ≤ 100) (hlb : b.length ≤ 100) : Calls Try.prog 141 #[va, vb] w fun e w' => ∃ m, e = .returned (.bool (befB a b)) ∧ w' = w.drewN m := by
  obtain ⟨ba, oa, ca, rfl, _, hc⟩ := ha.open hna
  obtain ⟨bb, ob, cb, rfl, _, hc'⟩ := hb.open hnb
  have Hc := Lib.hid hc
  have Hc' := Lib.hid hc'
  have ha1 : 0 < a.length := List.length_pos_iff.2 hna
  clear hc hc' ha hb hna hnb
  by_cases hl : a.length = b.length
  · have Hd := Lib.hid (befB_go hl)
    have hl1 : (a.length : Int) = (b.length : Int) := by omega
    have Hl := Lib.hid hl
    clear hl
    go_enter Try.func141, Try.ntmps141
    go_wp2
    go_loopw [5] (fun i wr => ∃ k m : Nat, k ≤ a.length ∧ i = .int .i64 ((k : Int) - 1) ∧ wr = w.drewN m ∧ befB a b = befGo a b k) (fun i _ => (intOf i + 1).toNat)
    case atStart => exact ⟨a.length, 0, Nat.le_refl _, by go_num, rfl, Hd.out⟩
    case round =>
      obtain ⟨k, m, hk, rfl, rfl, hbe⟩ := hrel
      have Hbe := Lib.hid hbe
      clear hbe hl1
      cases k with
      | zero =>
        go_wp2
        go_ret
        exact ⟨m, by rw [Hbe.out]; rfl, rfl⟩
      | succ k =>
        have hka : k < a.length := by omega
        have hkb : k < b.length := by have := Hl.out; omega
        have c1 := Hc.out k (by omega)
        have c2 := Hc'.out k (by have := Hl.out; omega)
        have H2 := Lib.hid (show befB a b = if a.getD k 0 = b.getD k 0 then befGo a b k else decide (a.getD k 0 < b.getD k 0) from Hbe.out)
        generalize a.getD k 0 = x at *
        generalize b.getD k 0 = y at *
        rw [show (((k + 1 : Nat) : Int) - 1) = (k : Int) by omega]
        have hwk : IntKind.i64.wrap ((k : Int) - 1) = (k : Int) - 1 := IntWalk.i64_in _ ⟨by omega, by omega⟩
        by_cases hxy : x = y
        · have H3 := Lib.hid (show befB a b = befGo a b k by rw [H2.out, if_pos hxy])
          subst hxy
          have f1 : (x != x) = false := by simp
          go_wp2
          go_quiet (fail)
          go_wp2
          go_roundw
          case rel => exact ⟨k, _, by omega, by go_num, rfl, H3.out⟩
          case measure => simp [intOf] <;> omega
        · have H3 := Lib.hid (show befB a b = decide (x < y) by rw [H2.out, if_neg hxy])
          have f1 : (x != y) = true := by simpa using hxy
          have f2 : (x == y) = false := by simpa using hxy
          go_wp2
          go_quiet (fail)
          go_wp2
          go_quiet (fail)
          go_wp2
          go_ret
          exact ⟨_, by rw [H3.out]; rfl, by rw [World.drewN_drewN, World.drewN_drewN]⟩
  · have Hd := Lib.hid (befB_len hl)
    have hl1 : ¬ ((a.length : Int) = (b.length : Int)) := by omega
    go_enter Try.func141, Try.ntmps141
    go_wp2
    go_ret
    exact ⟨0, by rw [Hd.out]; simp, rfl⟩

end Go.Proofs.Ytlnjkjogedbhfaa
