/- Factors over a prime: the reference's small functions. Conditions: a prime. -/
import Derived.Test.YtlnjkjogedbhfaaIFac2
import Derived.Test.YtlnjkjogedbhfaaI36
import Derived.Test.YtlnjkjogedbhfaaI16
import Derived.Test.YtlnjkjogedbhfaaIWf
import Derived.Test.YtlnjkjogedbhfaaI18
import Derived.Test.YtlnjkjogedbhfaaIWg
namespace Go.Proofs.Ytlnjkjogedbhfaa
open Go Go.RowKit
set_option linter.unusedSimpArgs false
set_option linter.unusedVariables false

/-- The next candidate, in place. -/
def RNext (M d n g B cap : Nat) (w : World) (e : Ending) (w' : World) : Prop :=
  ∃ ok zs, e = .returned (.bool ok) ∧ RowI w' B (.slice (some ⟨g, 0, none⟩) (d + 1) cap) zs ∧ zs.length = d + 1 ∧ Only g (g + 1) w w' ∧ (ok = true → n + 1 < M ^ d ∧ zs = cand M d (n + 1)) ∧ (ok = false → n + 1 = M ^ d)
set_option maxRecDepth 100000 in
set_option maxHeartbeats 4000000 in
theorem next_fac (M d n g B cap : Nat) (w : World) (hr : RowI w B (.slice (some ⟨g, 0, none⟩) (d + 1) cap) (cand M d n)) (hM : 2 ≤ M) (hM2 : M ≤ 13) (hd : d ≤ 99) (hn : n < M ^ d) : Calls Try.prog 146 #[.slice (some ⟨g, 0, none⟩) (d + 1) cap, .int .i64 M] w (RNext M d n g B cap w) := by
  have Hr := Lib.hid hr
  clear hr
  have hw1 : IntKind.i64.wrap ((M : Int) - 1) = (M : Int) - 1 := IntWalk.i64_in _ ⟨by omega, by omega⟩
  have Hn := Lib.hid hn
  clear hn
  go_enter Try.func146, Try.ntmps146
  go_wp2_with fail
  go_loopw [5] (fun i wr => ∃ k : Nat, k ≤ d ∧ i = .int .i64 k ∧ RowI wr B (.slice (some ⟨g, 0, none⟩) (d + 1) cap) (nxt (cand M d n) k) ∧ Only g (g + 1) w wr ∧ n % M ^ k + 1 = M ^ k) (fun i _ => d + 1 - (intOf i).toNat)
  case atStart => exact ⟨0, Nat.zero_le _, rfl, Hr.out, Only.refl _ _ _, by simp [Nat.mod_one]⟩
  case round =>
    obtain ⟨k, hk, rfl, hrow, honly, hlow⟩ := hrel
    have Hrow := Lib.hid hrow
    have Honly := Lib.hid honly
    have Hlow := Lib.hid hlow
    clear hlow hrow honly
    have hwk : IntKind.i64.wrap ((k : Int) + 1) = (k : Int) + 1 := IntWalk.i64_in _ ⟨by omega, by omega⟩
    have hlen : (nxt (cand M d n) k).length = d + 1 := by rw [nxt_length, cand_length]
    by_cases hlt : k < d
    · have hk1 : (k : Int) + 1 < ((d + 1 : Nat) : Int) := by omega
      have c1 := Hrow.out.cell (j := k) (by omega)
      rw [nxt_get _ _ _ (by rw [cand_length]; omega), if_neg (by omega), cand_get, if_pos hlt] at c1
      have c2 := Hrow.out.frozen k
      have hdl := dg_lt (M := M) (by omega) n k
      by_cases hdg : dg M n k + 1 < M
      · have H1 := Lib.hid (next_cand (d := d) hM hlt Hlow.out hdg)
        have H2 := Lib.hid (next_lt hM hlt Hn.out Hlow.out hdg)
        have H3 := Lib.hid (Hrow.out.set k ((dg M n k : Int) + 1))
        have H4 := Lib.hid (Honly.out.setCell (p := ⟨g, k, none⟩) (Nat.le_refl _) (Nat.lt_succ_self _) (.int .i64 ((dg M n k : Int) + 1)))
        generalize dg M n k = x at *
        have hx : (x : Int) < (M : Int) - 1 := by omega
        have hwx : IntKind.i64.wrap ((x : Int) + 1) = (x : Int) + 1 := IntWalk.i64_in _ ⟨by omega, by omega⟩
        go_wp2
        go_ret
        refine ⟨true, _, rfl, H3.out, by rw [List.length_set]; exact hlen, H4.out, fun _ => ⟨H2.out, H1.out⟩, fun h => by cases h⟩
      · have H3 := Lib.hid (Hrow.out.set k 0)
        have H4 := Lib.hid (Honly.out.setCell (p := ⟨g, k, none⟩) (Nat.le_refl _) (Nat.lt_succ_self _) (.int .i64 0))
        have H5 := Lib.hid (low_succ hM Hlow.out (show dg M n k + 1 = M by omega))
        generalize dg M n k = x at *
        have hx : ¬ ((x : Int) < (M : Int) - 1) := by omega
        go_wp2
        go_roundw
        case rel => exact ⟨k + 1, by omega, by go_num, H3.out, H4.out, H5.out⟩
        case measure => simp [intOf]; omega
    · obtain rfl : k = d := by omega
      have hk1 : ¬ ((k : Int) + 1 < ((k + 1 : Nat) : Int)) := by omega
      have H2 := Lib.hid (low_end Hn.out Hlow.out)
      go_wp2
      go_ret
      exact ⟨false, _, rfl, Hrow.out, hlen, Honly.out, fun h => (by cases h), fun _ => H2.out⟩

end Go.Proofs.Ytlnjkjogedbhfaa

/- Factors over a prime: the reference's small functions. Conditions: a prime. -/
namespace Go.Proofs.Ytlnjkjogedbhfaa
open Go Go.RowKit
set_option linter.unusedSimpArgs false
set_option linter.unusedVariables false

set_option maxRecDepth 100000 in
set_option maxHeartbeats 800000 in
theorem monic_own (v : Value) (zs : List Int) (m : Int) (w : World) (hv : RdI w v zs) (hne : zs ≠ []) (hl : zs.length ≤ 100) (hov : OvI m zs) (hm : primeB m = true) (hz0 : zeroB zs = false) : Calls Try.prog 126 #[v, .int .i64 m] w (RL (monicS m zs) w) := by
  have hmp := primeB_bd hm
  have hn1 : 0 < zs.length := List.length_pos_iff.2 hne
  have Hv := Lib.hid hv
  obtain ⟨b, off, cap, rfl, hb, hc⟩ := hv.open hne
  have Hc := Lib.hid (fun (w' : World) (h : Below w.heap.size w w') i (hi : i < zs.length) => (h.cell (p := ⟨b, off + i, none⟩) hb).trans (hc i hi))
  have hlz : 0 ≤ lastZ zs ∧ lastZ zs < m := hov (zs.length - 1)
  have c0 := hc (zs.length - 1) (by omega)
  rw [← lastZ] at c0
  have hi0 := invZ_bd (lastZ zs) m (by omega)
  clear hc hv
  have hz := hz0
  clear hz0
  · have Hd := Lib.hid (show monicS m zs = buildZ (fun k => (zs.getD k 0 * invZ (lastZ zs) m) % m) zs.length by rw [build_map (fun z => (z * invZ (lastZ zs) m) % m), monicS, hz]; rfl)
    generalize lastZ zs = lz at *
    go_enter Try.func126, Try.ntmps126
    go_wp2_with fail
    (go_at_call 123; ((with_reducible refine (zero_spec _ zs _ Hv.out (by omega)).mono ?_); rintro e w' ⟨rfl, rfl⟩))
    go_wp2_with fail
    (go_at_call 127; ((with_reducible refine (inverse_spec _ _ _ (by omega) (by omega) (by omega) (by omega)).mono ?_); rintro e w' ⟨rfl, rfl⟩))
    clear hz
    go_wp2
    go_loopw [6, 22] (fun ov i wr => ∃ k : Nat, k ≤ zs.length ∧ i = .int .i64 k ∧ RowI wr w.heap.size ov (buildZ (fun k => (zs.getD k 0 * invZ lz m) % m) k) ∧ Below w.heap.size w wr) (fun _ i _ => zs.length - (intOf i).toNat)
    case atStart => exact ⟨0, Nat.zero_le _, rfl, RowI.emptyB (by simp) (by simp <;> omega), by (repeat' (first | (with_reducible exact Below.refl _ _) | (with_reducible assumption) | (with_reducible refine Below.alloc ?_ ?_ _) | (with_reducible refine Below.setCell ?_ ?_ _) | (with_reducible refine Below.drew ?_) | (with_reducible refine Below.via (by assumption) ?_ ?_) | go_size))⟩
    case round =>
      obtain ⟨k, hk, rfl, hrow, hbel⟩ := hrel
      by_cases hlt : k < zs.length
      · have hsz := hbel.size
        have hlen : (buildZ (fun k => (zs.getD k 0 * invZ lz m) % m) k).length ≤ 1099511627776 := by rw [buildZ_length]; omega
        have Hn := Lib.hid (show buildZ (fun k => (zs.getD k 0 * invZ lz m) % m) k ++ [(zs.getD k 0 * invZ lz m) % m] = buildZ (fun k => (zs.getD k 0 * invZ lz m) % m) (k + 1) from buildZ_succ _ k)
        have c1 := Hc.out wr hbel k hlt
        have hz := hov k
        have hp := mul_small (x := zs.getD k 0) (k := invZ lz m) (by omega) (by omega) (by omega) (by omega)
        generalize zs.getD k 0 = z at *
        generalize invZ lz m = inv at *
        go_wp2_with (at_builtin; refine wpList_pushI hrow rfl _ _ rfl int64S_under hlen (by first | omega | (simp only [World.size_alloc]; omega)) rfl rfl ?_; intro v1 w1 hr1 hb1)
        go_roundw
        case rel => exact ⟨k + 1, by omega, by go_num, by rw [← Hn.out]; exact hr1, hbel.trans (hb1.mono (by omega))⟩
        case measure => simp [intOf]; omega
      · obtain rfl : k = zs.length := by omega
        have hsz := hbel.size
        have Hrow := Lib.hid hrow
        clear hrow
        go_wp2_with fail
        go_ret
        rw [Hd.out]
        exact ⟨_, rfl, Hrow.out.own, hbel⟩

theorem befB_len {a b : List Int} (h : a.length ≠ b.length) : befB a b = decide (a.length < b.length) := if_neg h
theorem befB_go {a b : List Int} (h : a.length = b.length) : befB a b = befGo a b a.length := if_pos h
set_option maxRecDepth 100000 in
set_option maxHeartbeats 4000000 in
theorem before_spec (va vb : Value) (a b : List Int) (w : World) (ha : RdI w va a) (hb : RdI w vb b) (hna : a ≠ []) (hnb : b ≠ []) (hla : a.length ≤ 100) (hlb : b.length ≤ 100) : Calls Try.prog 141 #[va, vb] w fun e w' => ∃ m, e = .returned (.bool (befB a b)) ∧ w' = w.drewN m := by
  obtain ⟨ba, oa, ca, rfl, _, hc⟩ := ha.open hna
  obtain ⟨bb, ob, cb, rfl, _, hc'⟩ := hb.open hnb
  have Hc := Lib.hid hc
  have Hc' := Lib.hid hc'
  have ha1 : 0 < a.length := List.length_pos_iff.2 hna
  clear hc hc' ha hb hna hnb
  by_cases hl : a.length = b.length
  · have Hd := Lib.hid (befB_go hl)
    have hl1 : (a.length : Int) = (b.length : Int) := by omega
    have Hl := Lib.hid hl
    clear hl
    go_enter Try.func141, Try.ntmps141
    go_wp2
    go_loopw [5] (fun i wr => ∃ k m : Nat, k ≤ a.length ∧ i = .int .i64 ((k : Int) - 1) ∧ wr = w.drewN m ∧ befB a b = befGo a b k) (fun i _ => (intOf i + 1).toNat)
    case atStart => exact ⟨a.length, 0, Nat.le_refl _, by go_num, rfl, Hd.out⟩
    case round =>
      obtain ⟨k, m, hk, rfl, rfl, hbe⟩ := hrel
      have Hbe := Lib.hid hbe
      clear hbe hl1
      cases k with
      | zero =>
        go_wp2
        go_ret
        exact ⟨m, by rw [Hbe.out]; rfl, rfl⟩
      | succ k =>
        have hka : k < a.length := by omega
        have hkb : k < b.length := by have := Hl.out; omega
        have c1 := Hc.out k (by omega)
        have c2 := Hc'.out k (by have := Hl.out; omega)
        have H2 := Lib.hid (show befB a b = if a.getD k 0 = b.getD k 0 then befGo a b k else decide (a.getD k 0 < b.getD k 0) from Hbe.out)
        generalize a.getD k 0 = x at *
        generalize b.getD k 0 = y at *
        rw [show (((k + 1 : Nat) : Int) - 1) = (k : Int) by omega]
        have hwk : IntKind.i64.wrap ((k : Int) - 1) = (k : Int) - 1 := IntWalk.i64_in _ ⟨by omega, by omega⟩
        by_cases hxy : x = y
        · have H3 := Lib.hid (show befB a b = befGo a b k by rw [H2.out, if_pos hxy])
          subst hxy
          have f1 : (x != x) = false := by simp
          go_wp2
          go_quiet (fail)
          go_wp2
          go_roundw
          case rel => exact ⟨k, _, by omega, by go_num, rfl, H3.out⟩
          case measure => simp [intOf] <;> omega
        · have H3 := Lib.hid (show befB a b = decide (x < y) by rw [H2.out, if_neg hxy])
          have f1 : (x != y) = true := by simpa using hxy
          have f2 : (x == y) = false := by simpa using hxy
          go_wp2
          go_quiet (fail)
          go_wp2
          go_quiet (fail)
          go_wp2
          go_ret
          exact ⟨_, by rw [H3.out]; rfl, by rw [World.drewN_drewN, World.drewN_drewN]⟩
  · have Hd := Lib.hid (befB_len hl)
    have hl1 : ¬ ((a.length : Int) = (b.length : Int)) := by omega
    go_enter Try.func141, Try.ntmps141
    go_wp2
    go_ret
    exact ⟨0, by rw [Hd.out]; simp, rfl⟩

end Go.Proofs.Ytlnjkjogedbhfaa

/- Factors over a prime: the reference's list. Conditions: a prime, degrees 1 to 6. -/
namespace Go.Proofs.Ytlnjkjogedbhfaa
open Go Go.RowKit
set_option linter.unusedSimpArgs false
set_option linter.unusedVariables false

theorem RowX.ne {T : TypeId} {w : World} {B g n cap : Nat} {X : Nat → Prop} {ls : List (List Int)} (h : RowX T w B X (.slice (some ⟨g, 0, none⟩) n cap) ls) : ¬ X g := by
  obtain ⟨g', cap', f, c, hv, hr, he, hg, _⟩ := h
  simp only [Value.slice.injEq, Option.some.injEq, Addr.mk.injEq, and_true] at hv
  rw [hv.1]; exact hg
theorem RowI.blk {w w' : World} {B g n cap : Nat} {zs : List Int} (h : RowI w B (.slice (some ⟨g, 0, none⟩) n cap) zs) (hb : w'.heap[g]? = w.heap[g]?) : RowI w' B (.slice (some ⟨g, 0, none⟩) n cap) zs := by
  have h1 : w.ownsRow B 2 1 (.slice (some ⟨g, 0, none⟩) n cap) zs.length (cellsI zs) := h
  obtain ⟨rfl, _⟩ := ownsRow_open h1
  exact ownsRow_block h1 hb
/-- The list of factors, of the call's own. -/
def RLs (L : List (List Int)) (w : World) (e : Ending) (w' : World) : Prop := ∃ v, e = .returned v ∧ OwWs w' w.heap.size w'.heap.size v L ∧ Below w.heap.size w w'
/-- At the head of the outer loop. -/
def FsO (M : Nat) (L : List (List Int)) (w : World) (d : Nat) (nv ov : Value) (wr : World) : Prop :=
  ∃ now acc L' pn cn, nv = .slice (some ⟨pn, 0, none⟩) now.length cn ∧ OwI wr w.heap.size nv now ∧ RowX 24 wr w.heap.size (fun k => k = pn) ov acc ∧ Fs M d 0 now L' ∧ acc ++ L' = L ∧ Mon M now ∧ now.length ≤ 7 ∧ acc.length ≤ 7 ∧ Below w.heap.size w wr
/-- At the head of the inner loop. -/
def FsN (M : Nat) (L : List (List Int)) (w : World) (d gt : Nat) (g : Nat) (nv ov okv : Value) (wr : World) : Prop :=
  ∃ now acc L' pn cn n ok zs, nv = .slice (some ⟨pn, 0, none⟩) now.length cn ∧ okv = .bool ok ∧ OwI wr w.heap.size nv now ∧ RowX 24 wr w.heap.size (fun k => k = pn ∨ k = gt) ov acc ∧ RowI wr w.heap.size (.slice (some ⟨gt, 0, none⟩) (d + 1) (d + 1)) zs ∧ pn ≠ gt ∧
    Fs M d n now L' ∧ (ok = true → zs = cand M d n ∧ n < M ^ d) ∧ (ok = false → n = M ^ d ∧ 2 * d ≤ now.length - 1) ∧ acc ++ L' = L ∧ Mon M now ∧ now.length ≤ 7 ∧ acc.length ≤ 7 ∧ g = now.length * (M ^ d + 2) + (if ok then M ^ d - n + 1 else 0) ∧ Below w.heap.size w wr

set_option maxRecDepth 100000 in
set_option maxHeartbeats 8000000 in
theorem factors_spec (va : Value) (a now0 : List Int) (M : Nat) (L : List (List Int)) (w : World) (ha : RdI w va a) (hm : primeB (M : Int) = true) (hov : Ovr M a) (hz : zeroB a = false) (hl : a.length ≤ 7) (hmo : monicS M a = now0) (hmn : Mon M now0) (hf : Fs M 1 0 now0 L) (hL7 : L.length ≤ 7) : Calls Try.prog 140 #[va, .int .i64 M] w (RLs L w) := by
  have Ha := Lib.hid ha
  have Hm := Lib.hid hm
  have hM := primeB_bd hm
  have hov' := Lib.hid hov
  have Hz := Lib.hid hz
  have Hmo := Lib.hid hmo
  have Hmn := Lib.hid hmn
  have Hf := Lib.hid hf
  have hln : now0.length ≤ 7 := by rw [← hmo, monicS_length]; exact hl
  obtain ⟨aoa, ca, rfl⟩ := ha.shape
  clear ha hm hov hz hmo hmn hf
  go_enter Try.func140, Try.ntmps140
  go_wp2_with fail
  (go_at_call 126; ((with_reducible refine (monic_own _ a M _ Ha.out hov'.out.ne (by omega) hov'.out.ov Hm.out Hz.out).mono ?_); rintro e w1 ⟨v1, rfl, o1, h1⟩))
  rw [Hmo.out] at o1
  obtain ⟨pn0, cn0, he1, hB1, hs1, _, _, _⟩ := o1.open Hmn.out.ov.ne
  subst he1
  have O1 := Lib.hid o1
  have z1 := h1.size
  clear o1
  go_wp2_with fail
  go_loopw [5, 6, 7] (fun nv ov i wr => ∃ d : Nat, 1 ≤ d ∧ d ≤ 4 ∧ i = .int .i64 d ∧ FsO M L w d nv ov wr) (fun _ _ i _ => 5 - (intOf i).toNat)
  case atStart =>
    refine ⟨1, Nat.le_refl _, by omega, by go_num, now0, [], L, pn0, cn0, rfl, (O1.out.below (by (repeat' (first | (with_reducible exact Below.refl _ _) | (with_reducible assumption) | (with_reducible refine Below.alloc ?_ ?_ _) | (with_reducible refine Below.setCell ?_ ?_ _) | (with_reducible refine Below.drew ?_) | (with_reducible refine Below.via (by assumption) ?_ ?_) | go_size)))), RowX.empty rfl (by omega) (by intro h; omega), Hf.out, rfl, Hmn.out, by omega, by simp, by (repeat' (first | (with_reducible exact Below.refl _ _) | (with_reducible assumption) | (with_reducible refine Below.alloc ?_ ?_ _) | (with_reducible refine Below.setCell ?_ ?_ _) | (with_reducible refine Below.drew ?_) | (with_reducible refine Below.via (by assumption) ?_ ?_) | go_size))⟩
  case round =>
    obtain ⟨d, hd1, hd4, rfl, now, acc, L', pn, cn, rfl, hown, hrow, hfs, hacc, hmon, hl7, ha7, hbel⟩ := hrel
    have Hown := Lib.hid hown
    have Hrow := Lib.hid hrow
    have Hfs := Lib.hid hfs
    have Hacc := Lib.hid hacc
    have Hmon := Lib.hid hmon
    have Hbel := Lib.hid hbel
    obtain ⟨gR, cR, rfl⟩ := hrow.shape
    have hpn := hown.cases1.2.2.1
    have hlR := hrow.lt
    have hnR := hrow.ne
    have hbs := hbel.size
    have hl1 := hmon.ov.trd.1
    clear hown hrow hfs hacc hmon hbel
    have hw1 : IntKind.i64.wrap (2 * (d : Int)) = 2 * (d : Int) := IntWalk.i64_in _ ⟨by omega, by omega⟩
    have hw2 : IntKind.i64.wrap ((now.length : Int) - 1) = (now.length : Int) - 1 := IntWalk.i64_in _ ⟨by omega, by omega⟩
    have hw3 : IntKind.i64.wrap ((d : Int) + 1) = (d : Int) + 1 := IntWalk.i64_in _ ⟨by omega, by omega⟩
    by_cases h2 : 2 * d ≤ now.length - 1
    · have h2' : 2 * (d : Int) ≤ (now.length : Int) - 1 := by omega
      have hd3 : d ≤ 3 := by omega
      have hdl : d < d + 1 := Nat.lt_succ_self d
      go_wp2_with (at_make; refine wpList_makeI _ rfl _ _ _ rfl int64S_under _ _ (d + 1) rfl rfl (by omega) (by omega) (by omega) ?_; intro w2 hr2 hbl2 hlt2; have zl2 := hbl2.size; have c2 := hr2.cell (j := d) (by simp); have c3 := hr2.frozen d)
      have Hr2 := Lib.hid (hr2.set d 1)
      have Hbl2 := Lib.hid hbl2
      have HO := Lib.hid ((Only.refl wr.heap.size (wr.heap.size + 1) w2).setCell (p := ⟨wr.heap.size, d, none⟩) (Nat.le_refl _) (Nat.lt_succ_self _) (.int .i64 1))
      generalize hw3' : w2.setCell ⟨wr.heap.size, d, none⟩ (.int .i64 1) = w3 at *
      clear hr2 hbl2 c2 c3
      have hpg : pn ≠ wr.heap.size := by omega
      have S0 : FsN M L w d wr.heap.size (now.length * (M ^ d + 2) + (M ^ d - 0 + 1)) (.slice (some ⟨pn, 0, none⟩) now.length cn) (.slice (some ⟨gR, 0, none⟩) acc.length cR) (.bool true) w3 := by
        refine ⟨now, acc, L', pn, cn, 0, true, _, rfl, rfl, ?_, ?_, Hr2.out.mono hbs, hpg, Hfs.out, fun _ => ⟨?_, Nat.pow_pos (by omega)⟩, fun h => (by cases h), Hacc.out, Hmon.out, hl7, ha7, by simp, ?_⟩
        · exact (Hown.out.below Hbl2.out).block (HO.out.block pn (by omega) (by omega))
        · exact (((Hrow.out.fresh.below Hbl2.out).only (HO.out) (by right; exact Nat.le_refl _)).weak (fun k hk => by rcases hk with rfl | rfl; exact .inl rfl; exact .inr (Nat.le_refl _)))
        · exact cand_start M d (by omega)
        · exact (Hbel.out.trans (Hbl2.out.mono hbs)).trans (HO.out.toBelow hbs (by omega))
      have HS0 := Lib.hid S0
      clear S0 hw3' Hr2 Hbl2 HO Hown Hrow Hfs Hacc Hmon Hbel
      generalize hgt : wr.heap.size = gt at *
      have hgw : w.heap.size ≤ gt := hbs
      clear hw1 hw2 h2 h2' hpn hlR hnR hl1 hl7 ha7 hpg hbs hlt2 zl2 hgt
      go_loopg [5, 6, 9] (now.length * (M ^ d + 2) + (M ^ d - 0 + 1)) (fun g nv ov okv wr => FsN M L w d gt g nv ov okv wr)
      case atStart => exact HS0.out
      case round =>
        clear HS0
        obtain ⟨now, acc, L', pn, cn, n, ok, zs, rfl, rfl, hown, hrow, htry, hpg, hfs, hok1, hok2, hacc, hmon, hl7, ha7, hg, hbel⟩ := hrel
        have Hown := Lib.hid hown
        have Hrow := Lib.hid hrow
        have Htry := Lib.hid htry
        have Hfs := Lib.hid hfs
        have Hok1 := Lib.hid hok1
        have Hok2 := Lib.hid hok2
        have Hacc := Lib.hid hacc
        have Hmon := Lib.hid hmon
        have Hbel := Lib.hid hbel
        have Hg := Lib.hid hg
        obtain ⟨gR, cR, rfl⟩ := hrow.shape
        have hpn := hown.cases1.2.2.1
        have hlR := hrow.lt
        have hlt := htry.lt
        have hbs := hbel.size
        have hl1 := hmon.ov.trd.1
        clear hown hrow htry hfs hok1 hok2 hacc hmon hbel hg
        have hw1 : IntKind.i64.wrap (2 * (d : Int)) = 2 * (d : Int) := IntWalk.i64_in _ ⟨by omega, by omega⟩
        have hw2 : IntKind.i64.wrap ((now.length : Int) - 1) = (now.length : Int) - 1 := IntWalk.i64_in _ ⟨by omega, by omega⟩
        cases ok
        · have hx := Hok2.out rfl
          have Hx := Lib.hid hx
          clear hx
          go_wp2_with fail
          go_roundw
          case rel => exact ⟨d + 1, by omega, by omega, by go_num, now, acc, L', pn, cn, rfl, Hown.out, Hrow.out.weak (fun k hk => .inl hk), fs_leave Hfs.out (.inr Hx.out.1), Hacc.out, Hmon.out, hl7, ha7, Hbel.out⟩
          case measure => simp [intOf]; omega
        · by_cases h2 : 2 * d ≤ now.length - 1
          · have h2' : 2 * (d : Int) ≤ (now.length : Int) - 1 := by omega
            obtain ⟨hzs, hn⟩ := Hok1.out rfl
            subst hzs
            have Hn := Lib.hid hn
            clear hn
            have hcm := Lib.hid (cand_mon (M := M) (n := n) Hm.out (show d ≤ 99 by omega))
            have hcl := Lib.hid (cand_length M d n)
            by_cases hdv : Dv M now (cand M d n)
            · have Hdv := Lib.hid hdv
              have Hz := Lib.hid (show zeroB (divF now (cand M d n) M).2 = true by rw [dv_zero]; exact decide_eq_true hdv)
              have Hq := Lib.hid (quo_mon Hm.out Hmon.out hcm.out hdv)
              have Hft := Lib.hid (fs_hit Hfs.out h2 Hn.out hdv)
              clear hdv
              go_wp2_with fail
              (go_at_call 76; ((with_reducible refine (divide_spec2 _ _ now (cand M d n) M _ Hown.out.rd Htry.out.own.rd Hm.out Hmon.out.ov hcm.out.ov (cand_zero hd1)).mono ?_); rintro e w4 ⟨vq, vr, rfl, oq, or, hb4⟩))
              have Hor := Lib.hid or
              obtain ⟨ar, cr, rfl⟩ := or.rd.shape
              obtain ⟨pq, nq, heq, hBq, hsq, _, _, _⟩ := oq.open Hq.out.1.ov.ne
              subst heq
              have Hoq := Lib.hid oq
              have zb4 := hb4.size
              clear or oq
              go_wp2_with fail
              (go_at_call 123; ((with_reducible refine (zero_spec _ _ _ Hor.out.rd (by have := (divF_ovr Hm.out Hmon.out.ov hcm.out.ov (cand_zero hd1)).2.1.len; omega)).mono ?_); rintro e w5 ⟨rfl, rfl⟩))
              rw [Hz.out]
              have Htry4 := Lib.hid (Htry.out.below hb4)
              have Hrow4 := Lib.hid (Hrow.out.fresh.below hb4)
              have nR := Hrow.out.ne
              go_wp2_with (first | (at_builtin; refine wpList_cloneR rfl _ _ rfl int64S_under Htry4.out.own.rd hcm.out.ov.ne (by have := hcl.out; omega) rfl rfl rfl ?_; intro g1 cap1 y1 hg1 hr1 hb1; have zb1 := hb1.size; have zr1 := hr1.lt) | (at_builtin; refine wpList_pushX (X := fun k => k = pq ∨ k = gt ∨ k = g1) (X' := fun k => k = pq ∨ k = gt) infoL (by decide) ((Hrow4.out.fresh.below hb1).weak (fun k hk => (by rcases hk with rfl | rfl | rfl; exact .inl (.inr hBq); exact .inl (.inl (.inr rfl)); exact .inr hg1))) (Or.inr (Or.inr rfl)) (fun h => (by rcases h with h | h <;> omega)) (fun k hk => (by rcases hk with rfl | rfl; exact ⟨.inl rfl, (by omega)⟩; exact ⟨.inr (.inl rfl), (by omega)⟩)) (hr1.own.mono (by omega)) rfl _ _ rfl listS_under (by omega) (by omega) rfl rfl rfl ?_; intro v2 y2 hr2 hb2 hk2 hq2))
              have Hk2 := Lib.hid hk2
              have Hr2 := Lib.hid hr2
              have Hb1 := Lib.hid hb1
              have Hb2 := Lib.hid hb2
              have Hb4 := Lib.hid hb4
              clear hq2 hk2 hr2 hb1 hb2 hb4 hr1
              go_roundg ((quo M now (cand M d n)).length * (M ^ d + 2) + (M ^ d - n + 1))
              case measure =>
                have h1 := Hg.out
                have h3 := Hq.out.2
                rw [hcl.out] at h3
                have h4 := gm_down (C := M ^ d + 2) (show (quo M now (cand M d n)).length + 1 ≤ now.length by omega)
                simp only [if_true] at h1
                omega
              case rel =>
                obtain ⟨L2, hL2, hf2⟩ := Hft.out
                have h3 := Hq.out.2
                rw [hcl.out] at h3
                have hll := congrArg List.length Hacc.out
                rw [hL2, List.length_append, List.length_cons] at hll
                refine ⟨quo M now (cand M d n), acc ++ [cand M d n], L2, pq, nq, n, true, cand M d n, rfl, rfl, ?_, Hr2.out, ?_, (by omega), hf2, fun _ => ⟨rfl, Hn.out⟩, fun h => (by cases h), ?_, Hq.out.1, (by omega), (by rw [List.length_append, List.length_singleton]; omega), (by rw [if_pos rfl]), ?_⟩
                · exact ((Hoq.out.below Hb1.out).block (Hk2.out pq (by omega) (by simp only [Value.ownBlock, ne_eq, Option.some.injEq]; omega))).mono hbs
                · exact (Htry4.out.below Hb1.out).blk (Hk2.out gt (by omega) (by simp only [Value.ownBlock, ne_eq, Option.some.injEq]; omega))
                · rw [List.append_assoc, ← Hacc.out, hL2]; rfl
                · exact ((Hbel.out.trans (Hb4.out.mono hbs)).trans (Hb1.out.mono (by omega))).trans Hb2.out
            · have Hdv := Lib.hid hdv
              have Hz := Lib.hid (show zeroB (divF now (cand M d n) M).2 = false by rw [dv_zero]; exact decide_eq_false hdv)
              clear hdv
              go_wp2_with fail
              (go_at_call 76; ((with_reducible refine (divide_spec2 _ _ now (cand M d n) M _ Hown.out.rd Htry.out.own.rd Hm.out Hmon.out.ov hcm.out.ov (cand_zero hd1)).mono ?_); rintro e w4 ⟨vq, vr, rfl, oq, or, hb4⟩))
              have Hor := Lib.hid or
              obtain ⟨ar, cr, rfl⟩ := or.rd.shape
              obtain ⟨aq, cq, rfl⟩ := oq.rd.shape
              have zb4 := hb4.size
              clear or oq
              go_wp2_with fail
              (go_at_call 123; ((with_reducible refine (zero_spec _ _ _ Hor.out.rd (by have := (divF_ovr Hm.out Hmon.out.ov hcm.out.ov (cand_zero hd1)).2.1.len; omega)).mono ?_); rintro e w5 ⟨rfl, rfl⟩))
              rw [Hz.out]
              go_wp2_with fail
              (go_at_call 146; ((with_reducible refine (next_fac M d n gt w.heap.size (d + 1) _ (Htry.out.below hb4) (by omega) (by omega) (by omega) Hn.out).mono ?_); rintro e w6 ⟨ok, zs6, rfl, hr6, hl6, ho6, ht6, hf6⟩))
              have Hr6 := Lib.hid hr6
              have Ho6 := Lib.hid ho6
              have Ht6 := Lib.hid ht6
              have Hf6 := Lib.hid hf6
              have Hb4 := Lib.hid hb4
              have z6 := ho6.size
              clear hr6 ho6 ht6 hf6 hb4
              go_wp2_with fail
              go_roundg (now.length * (M ^ d + 2) + (if ok then M ^ d - (n + 1) + 1 else 0))
              case measure =>
                have h1 := Hg.out
                have h3 := Hn.out
                simp only [if_true] at h1
                cases ok <;> simp <;> omega
              case rel =>
                refine ⟨now, acc, L', pn, cn, n + 1, ok, zs6, rfl, rfl, ?_, ?_, Hr6.out, hpg, fs_miss Hfs.out h2 Hn.out Hdv.out, fun h => ⟨(Ht6.out h).2, (Ht6.out h).1⟩, fun h => ⟨Hf6.out h, h2⟩, Hacc.out, Hmon.out, hl7, ha7, rfl, ?_⟩
                · exact (Hown.out.below Hb4.out).block (Ho6.out.block pn (by omega) (by omega))
                · exact (Hrow.out.below Hb4.out).only Ho6.out (.inr rfl)
                · exact (Hbel.out.trans (Hb4.out.mono hbs)).trans (Ho6.out.toBelow hgw (by omega))
          · have h2' : ¬ (2 * (d : Int) ≤ (now.length : Int) - 1) := by omega
            go_wp2_with fail
            go_roundw
            case rel => exact ⟨d + 1, by omega, by omega, by go_num, now, acc, L', pn, cn, rfl, Hown.out, Hrow.out.weak (fun k hk => .inl hk), fs_leave Hfs.out (.inl (by omega)), Hacc.out, Hmon.out, hl7, ha7, Hbel.out⟩
            case measure => simp [intOf]; omega
    · have h2' : ¬ (2 * (d : Int) ≤ (now.length : Int) - 1) := by omega
      have HL := Lib.hid (fs_stop Hfs.out (by omega))
      have HL1 := Lib.hid (fun (h : 1 < now.length) => show L = acc ++ [now] by rw [← Hacc.out, HL.out, if_pos h])
      have HL2 := Lib.hid (fun (h : ¬ 1 < now.length) => show L = acc by rw [← Hacc.out, HL.out, if_neg h, List.append_nil])
      by_cases h1 : 1 < now.length
      · have h1' : (1 : Int) < (now.length : Int) := by omega
        go_wp2_with (at_builtin; refine wpList_pushX (X := fun k => k = pn) (X' := fun _ => False) infoL (by decide) Hrow.out rfl id (fun k h => h.elim) Hown.out rfl _ _ rfl listS_under (by omega) (by omega) rfl rfl rfl ?_; intro v2 y2 hr2 hb2 hk2 hq2)
        have Hr2 := Lib.hid hr2
        have Hb2 := Lib.hid hb2
        obtain ⟨g2, c2, rfl⟩ := hr2.shape
        clear hr2 hb2 hk2 hq2
        go_wp2_with fail
        go_ret
        rw [HL1.out h1]
        exact ⟨_, rfl, Hr2.out.own, Hbel.out.trans Hb2.out⟩
      · have h1' : ¬ ((1 : Int) < (now.length : Int)) := by omega
        go_wp2_with fail
        go_ret
        rw [HL2.out h1]
        exact ⟨_, rfl, Hrow.out.own, Hbel.out⟩

end Go.Proofs.Ytlnjkjogedbhfaa

/- The program's comparison of wholes. Conditions: wholes of small terms. -/
namespace Go.Proofs.Ytlnjkjogedbhfaa
open Go Go.RowKit
set_option linter.unusedSimpArgs false
set_option linter.unusedVariables false

/-- A number; not below 0 where a does not come before b. -/
def RCmp (a b : List Int) (w : World) (e : Ending) (w' : World) : Prop := ∃ c, e = .returned (.int .i64 c) ∧ (befB a b = false → 0 ≤ c) ∧ Below w.heap.size w w'
set_option maxRecDepth 100000 in
set_option maxHeartbeats 4000000 in
theorem compare_impl (va vb : Value) (a b : List Int) (w : World) (ha : RdI w va a) (hb : RdI w vb b) (hna : a ≠ []) (hnb : b ≠ []) (hla : a.length ≤ 100) (hlb : b.length ≤ 100) (hba : BdI 100 a) (hbb : BdI 100 b) : Calls Try.prog 143 #[.agg #[va], .agg #[vb]] w (RCmp a b w) := by
  have Hba := Lib.hid hba
  have Hbb := Lib.hid hbb
  obtain ⟨ba, oa, ca, rfl, qa, hc⟩ := ha.open hna
  obtain ⟨bb, ob, cb, rfl, qb, hc'⟩ := hb.open hnb
  have Hc := Lib.hid (fun (w' : World) (h : Below w.heap.size w w') i (hi : i < a.length) => (h.cell (p := ⟨ba, oa + i, none⟩) qa).trans (hc i hi))
  have Hc' := Lib.hid (fun (w' : World) (h : Below w.heap.size w w') i (hi : i < b.length) => (h.cell (p := ⟨bb, ob + i, none⟩) qb).trans (hc' i hi))
  have ha1 : 0 < a.length := List.length_pos_iff.2 hna
  clear hc hc' ha hb hna hnb hba hbb
  have hw1 : IntKind.i64.wrap ((a.length : Int) - 1 - ((b.length : Int) - 1)) = (a.length : Int) - 1 - ((b.length : Int) - 1) := IntWalk.i64_in _ ⟨by omega, by omega⟩
  by_cases hl : a.length = b.length
  · have Hd := Lib.hid (befB_go hl)
    have hl1 : (a.length : Int) - 1 = (b.length : Int) - 1 := by omega
    have Hl := Lib.hid hl
    clear hl
    have X0 := Lib.hid (show ((w.alloc (.cells #[.slice (some ⟨ba, oa, none⟩) a.length ca] 27)).alloc (.cells #[.slice (some ⟨bb, ob, none⟩) b.length cb] 27)).cell? ⟨w.heap.size, 0, none⟩ = some (.slice (some ⟨ba, oa, none⟩) a.length ca) by go_simp)
    have X1 := Lib.hid (show ((w.alloc (.cells #[.slice (some ⟨ba, oa, none⟩) a.length ca] 27)).alloc (.cells #[.slice (some ⟨bb, ob, none⟩) b.length cb] 27)).cell? ⟨w.heap.size + 1, 0, none⟩ = some (.slice (some ⟨bb, ob, none⟩) b.length cb) by go_simp)
    go_enter Try.func143, Try.ntmps143
    go_wp2
    go_region_held3 (fun w' => w'.cell? ⟨w.heap.size, 0, none⟩ = some (.slice (some ⟨ba, oa, none⟩) a.length ca) ∧ w'.cell? ⟨w.heap.size + 1, 0, none⟩ = some (.slice (some ⟨bb, ob, none⟩) b.length cb))
      (((try dsimp only); (try go_split_ands); refine ⟨?_, ?_⟩ <;> (first | assumption | (rw [hb1.cell (by first | omega | (simp <;> omega))]; assumption) | (refine (((Below.refl _ _).alloc (Nat.le_refl _) _).cell (by first | omega | (simp <;> omega))).trans (by assumption)) | (go_keep; done))))
      (first
        | (go_at_call 79; ((with_reducible refine (degree_exact (some ⟨ba, oa, none⟩) a.length ca _ (by omega)).mono ?_); rintro e w' ⟨rfl, rfl⟩))
        | (go_at_call 79; ((with_reducible refine (degree_exact (some ⟨bb, ob, none⟩) b.length cb _ (by omega)).mono ?_); rintro e w' ⟨rfl, rfl⟩)))
    go_wp2_with fail
    (go_at_call 79; ((with_reducible refine (degree_exact (some ⟨ba, oa, none⟩) a.length ca _ (by omega)).mono ?_); rintro e w' ⟨rfl, rfl⟩))
    go_wp2_with fail
    generalize hwz : World.alloc _ _ = wz
    have BZ := Lib.hid (show Below w.heap.size w wz by rw [← hwz]; (repeat' (first | (with_reducible exact Below.refl _ _) | (with_reducible assumption) | (with_reducible refine Below.alloc ?_ ?_ _) | (with_reducible refine Below.setCell ?_ ?_ _) | (with_reducible refine Below.drew ?_) | (with_reducible refine Below.via (by assumption) ?_ ?_) | go_size)))
    have B2 : Below ((w.alloc (.cells #[.slice (some ⟨ba, oa, none⟩) a.length ca] 27)).alloc (.cells #[.slice (some ⟨bb, ob, none⟩) b.length cb] 27)).heap.size ((w.alloc (.cells #[.slice (some ⟨ba, oa, none⟩) a.length ca] 27)).alloc (.cells #[.slice (some ⟨bb, ob, none⟩) b.length cb] 27)) wz := by rw [← hwz]; (repeat' (first | (with_reducible exact Below.refl _ _) | (with_reducible assumption) | (with_reducible refine Below.alloc ?_ ?_ _) | (with_reducible refine Below.setCell ?_ ?_ _) | (with_reducible refine Below.drew ?_) | (with_reducible refine Below.via (by assumption) ?_ ?_) | go_size))
    have x0 := (B2.cell (p := ⟨w.heap.size, 0, none⟩) (by simp; omega)).trans X0.out
    have x1 := (B2.cell (p := ⟨w.heap.size + 1, 0, none⟩) (by simp)).trans X1.out
    clear B2
    have m0 := World.block_lt_of_cell? _ _ x0
    have m1 := World.block_lt_of_cell? _ _ x1
    simp only at m0 m1
    clear hwz
    go_loopw [5] (fun i wr => ∃ k : Nat, k ≤ a.length ∧ i = .int .i64 ((k : Int) - 1) ∧ Below wz.heap.size wz wr ∧ befB a b = befGo a b k) (fun i _ => (intOf i + 1).toNat)
    case atStart => exact ⟨a.length, Nat.le_refl _, by go_num, by (repeat' (first | (with_reducible exact Below.refl _ _) | (with_reducible assumption) | (with_reducible refine Below.alloc ?_ ?_ _) | (with_reducible refine Below.setCell ?_ ?_ _) | (with_reducible refine Below.drew ?_) | (with_reducible refine Below.via (by assumption) ?_ ?_) | go_size)), Hd.out⟩
    case round =>
      obtain ⟨k, hk, rfl, hbel, hbe⟩ := hrel
      have Hbe := Lib.hid hbe
      have hsz := hbel.size
      have zbz := BZ.out.size
      have Hb := Lib.hid (BZ.out.trans (hbel.mono zbz))
      clear hbe hl1
      cases k with
      | zero =>
        go_wp2
        go_ret
        exact ⟨_, rfl, fun _ => Int.le_refl _, Hb.out⟩
      | succ k =>
        have hka : k < a.length := by omega
        have hkb : k < b.length := by have := Hl.out; omega
        have e0 := (hbel.cell (p := ⟨w.heap.size, 0, none⟩) m0).trans x0
        have e1 := (hbel.cell (p := ⟨w.heap.size + 1, 0, none⟩) m1).trans x1
        have c1 := Hc.out wr Hb.out k hka
        have c2 := Hc'.out wr Hb.out k hkb
        have s0 : w.heap.size < wr.heap.size := by omega
        have s1 : w.heap.size + 1 < wr.heap.size := by omega
        have b1 := Hba.out k
        have b2 := Hbb.out k
        have H2 := Lib.hid (show befB a b = if a.getD k 0 = b.getD k 0 then befGo a b k else decide (a.getD k 0 < b.getD k 0) from Hbe.out)
        generalize a.getD k 0 = x at *
        generalize b.getD k 0 = y at *
        rw [show (((k + 1 : Nat) : Int) - 1) = (k : Int) by omega]
        have hwk : IntKind.i64.wrap ((k : Int) - 1) = (k : Int) - 1 := IntWalk.i64_in _ ⟨by omega, by omega⟩
        have hwx : IntKind.i64.wrap (x - y) = x - y := IntWalk.i64_in _ ⟨by omega, by omega⟩
        by_cases hxy : x = y
        · have H3 := Lib.hid (show befB a b = befGo a b k by rw [H2.out, if_pos hxy])
          subst hxy
          have f1 : (x != x) = false := by simp
          go_wp2
          go_quiet (fail)
          go_wp2
          go_roundw
          case rel => exact ⟨k, by omega, by go_num, hbel.trans ((drewN_below _ _).mono hsz), H3.out⟩
          case measure => simp [intOf] <;> omega
        · have H3 := Lib.hid (show befB a b = decide (x < y) by rw [H2.out, if_neg hxy])
          have f1 : (x != y) = true := by simpa using hxy
          have f2 : (x == y) = false := by simpa using hxy
          go_wp2
          go_quiet (fail)
          go_wp2
          go_quiet (fail)
          go_wp2
          go_ret
          exact ⟨_, rfl, fun h => by rw [H3.out] at h; simp at h; omega, Hb.out.trans (((drewN_below _ _).trans ((drewN_below _ _).mono (Nat.le_refl _))).mono (by omega))⟩
  · have Hd := Lib.hid (befB_len hl)
    have hl1 : ¬ ((a.length : Int) - 1 = (b.length : Int) - 1) := by omega
    go_enter Try.func143, Try.ntmps143
    go_wp2
    go_region_held3 (fun w' => w'.cell? ⟨w.heap.size, 0, none⟩ = some (.slice (some ⟨ba, oa, none⟩) a.length ca) ∧ w'.cell? ⟨w.heap.size + 1, 0, none⟩ = some (.slice (some ⟨bb, ob, none⟩) b.length cb))
      (((try dsimp only); (try go_split_ands); refine ⟨?_, ?_⟩ <;> (first | assumption | (rw [hb1.cell (by first | omega | (simp <;> omega))]; assumption) | (refine (((Below.refl _ _).alloc (Nat.le_refl _) _).cell (by first | omega | (simp <;> omega))).trans (by assumption)) | (go_keep; done))))
      (first
        | (go_at_call 79; ((with_reducible refine (degree_exact (some ⟨ba, oa, none⟩) a.length ca _ (by omega)).mono ?_); rintro e w' ⟨rfl, rfl⟩))
        | (go_at_call 79; ((with_reducible refine (degree_exact (some ⟨bb, ob, none⟩) b.length cb _ (by omega)).mono ?_); rintro e w' ⟨rfl, rfl⟩)))
    go_wp2
    go_region_held3 (fun w' => w'.cell? ⟨w.heap.size, 0, none⟩ = some (.slice (some ⟨ba, oa, none⟩) a.length ca) ∧ w'.cell? ⟨w.heap.size + 1, 0, none⟩ = some (.slice (some ⟨bb, ob, none⟩) b.length cb))
      (((try dsimp only); (try go_split_ands); refine ⟨?_, ?_⟩ <;> (first | assumption | (rw [hb1.cell (by first | omega | (simp <;> omega))]; assumption) | (refine (((Below.refl _ _).alloc (Nat.le_refl _) _).cell (by first | omega | (simp <;> omega))).trans (by assumption)) | (go_keep; done))))
      (first
        | (go_at_call 79; ((with_reducible refine (degree_exact (some ⟨ba, oa, none⟩) a.length ca _ (by omega)).mono ?_); rintro e w' ⟨rfl, rfl⟩))
        | (go_at_call 79; ((with_reducible refine (degree_exact (some ⟨bb, ob, none⟩) b.length cb _ (by omega)).mono ?_); rintro e w' ⟨rfl, rfl⟩)))
    go_wp2
    go_ret
    exact ⟨_, rfl, fun h => by rw [Hd.out] at h; simp at h; omega, by (repeat' (first | (with_reducible exact Below.refl _ _) | (with_reducible assumption) | (with_reducible refine Below.alloc ?_ ?_ _) | (with_reducible refine Below.setCell ?_ ?_ _) | (with_reducible refine Below.drew ?_) | (with_reducible refine Below.via (by assumption) ?_ ?_) | go_size))⟩

end Go.Proofs.Ytlnjkjogedbhfaa

/- The program's sort moves nothing in a list that is in order. Conditions: at most 20 wholes of small terms, in order. -/
namespace Go.Proofs.Ytlnjkjogedbhfaa
open Go Go.RowKit
set_option linter.unusedSimpArgs false
set_option linter.unusedVariables false

/-- A list in order, of small wholes. -/
structure Srt (ls : List (List Int)) : Prop where
  len : ls.length ≤ 20
  el : ∀ i, i < ls.length → ls.getD i [] ≠ [] ∧ (ls.getD i []).length ≤ 100 ∧ BdI 100 (ls.getD i [])
  srt : ∀ i, i + 1 < ls.length → befB (ls.getD (i + 1) []) (ls.getD i []) = false
set_option maxRecDepth 100000 in
set_option maxHeartbeats 4000000 in
theorem insert_impl (v : Value) (ls : List (List Int)) (w : World) (hv : RdWs w v ls) (hs : Srt ls) : Calls Try.prog 149 #[v, .int .i64 0, .int .i64 ls.length, .func (.func 143) #[] #[]] w fun e w' => (∃ r, e = .returned r) ∧ Below w.heap.size w w' := by
  have Hs := Lib.hid hs
  have hl20 := hs.len
  have Hv := Lib.hid hv
  obtain ⟨ad, cap, rfl, hcp, hr⟩ := hv
  have Hr := Lib.hid hr
  clear hs hr
  go_enter Try.func149, Try.ntmps149
  go_wp2_with fail
  go_loopw [8] (fun i wr => ∃ k : Nat, 1 ≤ k ∧ (k ≤ ls.length ∨ k = 1) ∧ i = .int .i64 k ∧ Below w.heap.size w wr) (fun i _ => 30 - (intOf i).toNat)
  case atStart => exact ⟨1, Nat.le_refl _, .inr rfl, by go_num, Below.refl _ _⟩
  case round =>
    obtain ⟨k, hk1, hk, rfl, hbel⟩ := hrel
    have hsz := hbel.size
    obtain ⟨l, hkl⟩ : ∃ k', k = k' + 1 := ⟨k - 1, by omega⟩
    by_cases hlt : k < ls.length
    · have hlt0 : l < ls.length := by omega
      obtain ⟨b, off, cap', hve, hb, hc⟩ := Hv.out.open (by intro h; rw [h] at hlt; simp at hlt)
      simp only [Value.slice.injEq, true_and] at hve
      obtain ⟨rfl, rfl⟩ := hve
      obtain ⟨u1, q1, r1⟩ := hc k hlt
      obtain ⟨u0, q0, r0⟩ := hc l hlt0
      have R1 := Lib.hid r1
      have R0 := Lib.hid r0
      obtain ⟨p1, n1, rfl⟩ := r1.shape
      obtain ⟨p0, n0, rfl⟩ := r0.shape
      have E1 := Lib.hid (Hs.out.el k hlt)
      have E0 := Lib.hid (Hs.out.el l hlt0)
      have Es := Lib.hid (show befB (ls.getD k []) (ls.getD l []) = false by rw [hkl]; exact Hs.out.srt l (by omega))
      have c1 := (hbel.cell (p := ⟨b, off + k, none⟩) hb).trans q1
      have c0 := (hbel.cell (p := ⟨b, off + l, none⟩) hb).trans q0
      clear q1 q0 hc r1 r0
      have hw1 : IntKind.i64.wrap ((k : Int) - 1) = (l : Int) := by rw [show (k : Int) - 1 = (l : Int) by omega]; exact IntWalk.i64_in _ ⟨by omega, by omega⟩
      have hw2 : IntKind.i64.wrap ((k : Int) + 1) = (k : Int) + 1 := IntWalk.i64_in _ ⟨by omega, by omega⟩
      have hkn : 0 < k := by omega
      have hk0 : (0 : Int) < (k : Int) := by omega
      have hk3 : (k : Int) < (ls.length : Int) := by omega
      have hk6 : (l : Int) < (ls.length : Int) := by omega
      have Hkl := Lib.hid hkl
      clear hkl
      generalize ls.getD k [] = A at *
      generalize ls.getD l [] = B at *
      have hB1 : b < wr.heap.size := by omega
      go_wp2
      go_loopw [9] (fun j wx => j = .int .i64 (k : Int) ∧ wx = wr) (fun _ _ => 0)
      case atStart => exact ⟨rfl, rfl⟩
      case round =>
        obtain ⟨rfl, rfl⟩ := hrel
        go_wp2
        go_region_held3 (fun w' => w'.cell? ⟨b, off + k, none⟩ = some (.slice p1 A.length n1) ∧ w'.cell? ⟨b, off + l, none⟩ = some (.slice p0 B.length n0))
          (((try dsimp only); (try go_split_ands); refine ⟨?_, ?_⟩ <;> (first | assumption | (rw [hbc.cell (by first | omega | (simp <;> omega))]; assumption) | (refine (((Below.refl _ _).alloc (Nat.le_refl _) _).cell (by first | omega | (simp <;> omega))).trans (by assumption)) | (go_keep; done))))
          (first | (go_at_call 143; ((with_reducible refine (compare_impl _ _ A B _ (R1.out.below (by (repeat' (first | (with_reducible exact Below.refl _ _) | (with_reducible assumption) | (with_reducible refine Below.alloc ?_ ?_ _) | (with_reducible refine Below.setCell ?_ ?_ _) | (with_reducible refine Below.drew ?_) | (with_reducible refine Below.via (by assumption) ?_ ?_) | go_size)))) (R0.out.below (by (repeat' (first | (with_reducible exact Below.refl _ _) | (with_reducible assumption) | (with_reducible refine Below.alloc ?_ ?_ _) | (with_reducible refine Below.setCell ?_ ?_ _) | (with_reducible refine Below.drew ?_) | (with_reducible refine Below.via (by assumption) ?_ ?_) | go_size)))) E1.out.1 E0.out.1 E1.out.2.1 E0.out.2.1 E1.out.2.2 E0.out.2.2).mono ?_); rintro e w1 ⟨c, rfl, hcc, hbc⟩; have hc9 : ¬ (c < 0) := (by have := hcc Es.out; omega); have zc := hbc.size)))
        go_wp2_with fail
        go_roundw
        case rel => exact ⟨k + 1, by omega, .inl (by omega), by go_num, by (repeat' (first | (with_reducible exact Below.refl _ _) | (with_reducible assumption) | (with_reducible refine Below.alloc ?_ ?_ _) | (with_reducible refine Below.setCell ?_ ?_ _) | (with_reducible refine Below.drew ?_) | (with_reducible refine Below.via (by assumption) ?_ ?_) | go_size))⟩
        case measure => simp [intOf]; omega
    · have hk3 : ¬ ((k : Int) < (ls.length : Int)) := by omega
      go_wp2
      go_end0
      exact ⟨⟨_, rfl⟩, hbel⟩

end Go.Proofs.Ytlnjkjogedbhfaa

/- The program's sort moves nothing in a list that is in order. Conditions: at most 20 wholes of small terms, in order. -/
namespace Go.Proofs.Ytlnjkjogedbhfaa
open Go Go.RowKit
set_option linter.unusedSimpArgs false
set_option linter.unusedVariables false

set_option maxRecDepth 100000 in
set_option maxHeartbeats 4000000 in
theorem stable_impl (v : Value) (ls : List (List Int)) (w : World) (hv : RdWs w v ls) (hs : Srt ls) (hl19 : ls.length ≤ 19) : Calls Try.prog 147 #[v, .int .i64 ls.length, .func (.func 143) #[] #[]] w fun e w' => (∃ r, e = .returned r) ∧ Below w.heap.size w w' := by
  have Hs := Lib.hid hs
  have Hv := Lib.hid hv
  obtain ⟨ad, cap, rfl⟩ := hv.shape
  clear hs hv
  have h1 : ¬ ((20 : Int) ≤ (ls.length : Int)) := by omega
  have h2 : ¬ ((20 : Int) < (ls.length : Int)) := by omega
  go_enter Try.func147, Try.ntmps147
  go_wp2_with fail
  go_loopw [7, 8] (fun av bv wr => av = .int .i64 0 ∧ bv = .int .i64 20 ∧ wr = w) (fun _ _ _ => 0)
  case atStart => exact ⟨rfl, rfl, rfl⟩
  case round =>
    obtain ⟨rfl, rfl, rfl⟩ := hrel
    go_wp2_with fail
    (go_at_call 149; ((with_reducible refine (insert_impl _ ls _ Hv.out Hs.out).mono ?_); rintro e w1 ⟨⟨r, rfl⟩, hb1⟩))
    go_wp2_with fail
    go_loopw [6] (fun bs wx => bs = .int .i64 20 ∧ wx = w1) (fun _ _ => 0)
    case atStart => exact ⟨rfl, rfl⟩
    case round =>
      obtain ⟨rfl, rfl⟩ := hrel
      go_wp2
      go_end0
      exact ⟨⟨_, rfl⟩, hb1⟩

set_option maxRecDepth 100000 in
set_option maxHeartbeats 4000000 in
theorem sort_impl (v : Value) (ls : List (List Int)) (w : World) (hv : RdWs w v ls) (hs : Srt ls) (hl19 : ls.length ≤ 19) : Calls Try.prog 142 #[v, .func (.func 143) #[] #[]] w fun e w' => (∃ r, e = .returned r) ∧ Below w.heap.size w w' := by
  have Hs := Lib.hid hs
  have Hv := Lib.hid hv
  obtain ⟨ad, cap, rfl⟩ := hv.shape
  clear hs hv
  go_enter Try.func142, Try.ntmps142
  go_wp2_with fail
  (go_at_call 147; ((with_reducible refine (stable_impl _ ls _ Hv.out Hs.out hl19).mono ?_); rintro e w1 ⟨⟨r, rfl⟩, hb1⟩))
  go_wp2_with fail
  go_end0
  exact ⟨⟨_, rfl⟩, hb1⟩

end Go.Proofs.Ytlnjkjogedbhfaa

/- Factors over a prime: the reference's list in order. Conditions: a prime, degrees 1 to 6. -/
namespace Go.Proofs.Ytlnjkjogedbhfaa
open Go Go.RowKit
set_option linter.unusedSimpArgs false
set_option linter.unusedVariables false

/-- The blocks of the elements from k on. -/
def Xfrom (f : Nat → Nat) (k n : Nat) : Nat → Prop := fun b => ∃ j, k ≤ j ∧ j < n ∧ b = f j
theorem xfrom_weak {f : Nat → Nat} {k n b : Nat} (h : Xfrom f (k + 1) n b) : Xfrom f k n b := by
  obtain ⟨j, h1, h2, h3⟩ := h
  exact ⟨j, by omega, h2, h3⟩
theorem Below.of_blk {B B0 : Nat} {W w' : World} (hb : Below B0 W w') (h : ∀ k, k < B → w'.heap[k]? = W.heap[k]?) : Below B W w' := ⟨hb.os, hb.tape, hb.output, hb.size, h⟩
theorem take_next {L : List (List Int)} {k : Nat} (h : k < L.length) : L.take k ++ [L.getD k []] = L.take (k + 1) := by
  rw [List.take_add_one]
  simp [List.getD, h]
theorem take_get {L : List (List Int)} {k i : Nat} (h : i < k) : (L.take k).getD i [] = L.getD i [] := by
  simp only [List.getD, List.getElem?_take, if_pos h]
set_option maxRecDepth 100000 in
set_option maxHeartbeats 8000000 in
theorem ordered_spec (va : Value) (a now0 : List Int) (M : Nat) (L : List (List Int)) (w : World) (ha : RdI w va a) (hm : primeB (M : Int) = true) (hov : Ovr M a) (hz : zeroB a = false) (hl : a.length ≤ 7) (hmo : monicS M a = now0) (hmn : Mon M now0) (hf : Fs M 1 0 now0 L) (hL7 : L.length ≤ 7) (hs : Srt L) (hLn : L ≠ []) : Calls Try.prog 117 #[va, .int .i64 M] w (RLs L w) := by
  have Ha := Lib.hid ha
  have Hm := Lib.hid hm
  have hov' := Lib.hid hov
  have Hz := Lib.hid hz
  have Hmo := Lib.hid hmo
  have Hmn := Lib.hid hmn
  have Hf := Lib.hid hf
  have Hs := Lib.hid hs
  obtain ⟨aoa, ca, rfl⟩ := ha.shape
  clear ha hm hov hz hmo hmn hf hs
  go_enter Try.func117, Try.ntmps117
  go_wp2_with fail
  (go_at_call 140; ((with_reducible refine (factors_spec _ a now0 M L _ (Ha.out.below (by (repeat' (first | (with_reducible exact Below.refl _ _) | (with_reducible assumption) | (with_reducible refine Below.alloc ?_ ?_ _) | (with_reducible refine Below.setCell ?_ ?_ _) | (with_reducible refine Below.drew ?_) | (with_reducible refine Below.via (by assumption) ?_ ?_) | go_size)))) Hm.out hov'.out Hz.out hl Hmo.out Hmn.out Hf.out hL7).mono ?_); rintro e w1 ⟨v1, rfl, o1, h1⟩))
  have z1 := h1.size
  (try simp only [World.size_alloc] at z1)
  rcases o1 with ⟨rfl, hLe⟩ | ⟨g, cap, f, c, rfl, hcp, hB, hhi, hgs, he, hx⟩
  · exact absurd hLe hLn
  have Row0 := Lib.hid (show RowX 27 w1 w.heap.size (Xfrom f 0 L.length) (.slice (some ⟨w.heap.size, 0, none⟩) 0 0) (L.take 0) from (RowX.empty rfl (Nat.le_refl _) (by
    rintro ⟨j, _, hj, h⟩
    obtain ⟨_, q1, q2, _⟩ := (he j hj).1.cases1
    (try simp only [World.size_alloc] at q1)
    omega)).below h1)
  have He := Lib.hid he
  have Hx := Lib.hid hx
  have BW := Lib.hid (show Below w.heap.size w w1 by (repeat' (first | (with_reducible exact Below.refl _ _) | (with_reducible assumption) | (with_reducible refine Below.alloc ?_ ?_ _) | (with_reducible refine Below.setCell ?_ ?_ _) | (with_reducible refine Below.drew ?_) | (with_reducible refine Below.via (by assumption) ?_ ?_) | go_size)))
  have zw : w.heap.size ≤ w1.heap.size := by omega
  clear he hx h1 hhi hB
  go_wp2_with fail
  go_loopw [5, 16] (fun ov i wr => ∃ k : Nat, k ≤ L.length ∧ i = .int .i64 k ∧ RowX 27 wr w.heap.size (Xfrom f k L.length) ov (L.take k) ∧ Below w1.heap.size w1 wr) (fun _ i _ => L.length - (intOf i).toNat)
  case atStart => exact ⟨0, Nat.zero_le _, rfl, Row0.out, Below.refl _ _⟩
  case round =>
    obtain ⟨k, hk, rfl, hrow, hbel⟩ := hrel
    have htk : (L.take k).length = k := by rw [List.length_take]; omega
    obtain ⟨go, co, hsh⟩ := hrow.shape
    rw [htk] at hsh
    subst hsh
    have Hrow := Lib.hid hrow
    have hgo := hrow.lt
    have hsz := hbel.size
    have Hcap := Lib.hid (hrow.own.rd)
    clear hrow
    by_cases hlt : k < L.length
    · have c1 : wr.cell? ⟨g, k, none⟩ = some (.slice (some ⟨f k, 0, none⟩) (L.getD k []).length (c k)) := (hbel.cell (p := ⟨g, k, none⟩) hgs).trans (Hx.out k hlt)
      have Hel := Lib.hid (He.out k hlt)
      have Hlow := Lib.hid (fun b (hb : Xfrom f k L.length b) => show b < wr.heap.size by
        obtain ⟨j, _, hj, rfl⟩ := hb
        obtain ⟨_, _, q2, _⟩ := (He.out j hj).1.cases1
        omega)
      have Hne := Lib.hid (fun (hb : Xfrom f (k + 1) L.length (f k)) => by
        obtain ⟨j, h1, h2, h3⟩ := hb
        exact (He.out j h2).2.2.2 k (by omega) h3 : ¬ Xfrom f (k + 1) L.length (f k))
      have Htk := Lib.hid (take_next hlt)
      have Hlo := Lib.hid (show w.heap.size ≤ (w.alloc (Obj.cells #[] 27)).heap.size by simp)
      have Hbel := Lib.hid hbel
      have hkk : (k : Int) < (L.length : Int) := by omega
      have Hl1 := Lib.hid (Hs.out.el k hlt)
      have Hel1 := Lib.hid (show OwI w1 (w.alloc (Obj.cells #[] 27)).heap.size (.slice (some ⟨f k, 0, none⟩) (L.getD k []).length (c k)) (L.getD k []) from Hel.out.1)
      have R1 := Lib.hid (Hel1.out.rd.below Hbel.out)
      have HbefS := Lib.hid (fun l (h : l + 1 = k) => show befB (L.getD k []) (L.getD l []) = false by subst h; exact Hs.out.srt l hlt)
      clear He Hel
      generalize L.getD k [] = A at *
      rcases Nat.eq_zero_or_pos k with h0 | h0
      · subst h0
        go_wp2_with fail
        go_loopw [8] (fun av wx => av = .int .i64 0 ∧ Below wr.heap.size wr wx) (fun _ _ => 0)
        case atStart => exact ⟨rfl, by (repeat' (first | (with_reducible exact Below.refl _ _) | (with_reducible assumption) | (with_reducible refine Below.alloc ?_ ?_ _) | (with_reducible refine Below.setCell ?_ ?_ _) | (with_reducible refine Below.drew ?_) | (with_reducible refine Below.via (by assumption) ?_ ?_) | go_size))⟩
        case round =>
          obtain ⟨rfl, hbx⟩ := hrel
          have Hbx := Lib.hid hbx
          have zx := hbx.size
          have c2 := (hbx.cell (p := ⟨g, 0, none⟩) (World.block_lt_of_cell? _ _ c1)).trans c1
          clear c1 hbx
          have hgl := World.block_lt_of_cell? _ _ c2
          simp only at hgl
          go_wp2_with fail
          go_big_quiet (fail)
          generalize hwq : World.drewN _ _ = wq
          have Bq := Lib.hid (show Below wr.heap.size wr wq by rw [← hwq]; exact drewN_below _ _)
          have c4 := (Bq.out.cell (p := ⟨g, 0, none⟩) hgl).trans c2
          have hgl2 := World.block_lt_of_cell? _ _ c4
          simp only at hgl2
          have zq := Bq.out.size
          have HelQ := Lib.hid ((((Hel1.out.mono Hlo.out).below Hbel.out).below Hbx.out).below Bq.out)
          have hlowq := Lib.hid (fun b (hb : Xfrom f (0) L.length b) => Nat.lt_of_lt_of_le (Nat.lt_of_lt_of_le (Hlow.out b hb) zx) zq)
          have zw9 : w.heap.size ≤ wq.heap.size := by omega
          have z19 : w1.heap.size ≤ wq.heap.size := by omega
          have B1q := Lib.hid (show Below w1.heap.size w1 wq from (Hbel.out.trans (Hbx.out.mono hsz)).trans (Bq.out.mono (by omega)))
          clear hwq hgl
          go_wp2_with (first | (at_builtin; refine wpList_pushX (W := wq.alloc (.cells #[] 27)) (B := w.heap.size) (X := Xfrom f (0) L.length) (X' := Xfrom f (0 + 1) L.length) infoW rfl (RowX.empty rfl zw9 (fun h => Nat.lt_irrefl _ (hlowq.out _ h))) ⟨0, Nat.le_refl _, hlt, rfl⟩ Hne.out (fun b hb => ⟨xfrom_weak hb, by have := hlowq.out b (xfrom_weak hb); simp only [World.size_alloc]; omega⟩) (HelQ.out.alloc _) rfl _ _ rfl wholeS_under (by simp) (by simp only [World.size_alloc]; omega) rfl rfl (by first | rfl | simp) ?_; intro v2 y2 hr2 hb2 hk2 hq2; have hz2 := hb2.size; have HR2 := Lib.hid hr2; have HB2 := Lib.hid hb2; have HK2 := Lib.hid hk2; have HQ2 := Lib.hid hq2; obtain ⟨g2, cap2, rfl⟩ := hr2.shape; clear hr2 hb2 hk2 hq2) | (at_builtin; (refine wpList_noneX (W := y2) (B := w.heap.size) (X := Xfrom f (0 + 1) L.length) infoW rfl HR2.out (fun b hb => by have h1 := hlowq.out b (xfrom_weak hb); (simp only [World.size_alloc] at hz2; omega)) rfl _ _ rfl wholeS_under (by simp) (by simp only [World.size_alloc] at hz2; omega) rfl (by rfl) ?_); intro v3 y3 hr3 hb3 hk3 hq3; have hz3 := hb3.size))
          go_roundw
          case rel =>
            refine ⟨0 + 1, by omega, by go_num, by rw [← Htk.out]; exact hr3, ?_⟩
            have hg2 := HQ2.out g2 _ cap2 rfl
            simp only [Value.ownBlock, Option.some.injEq] at hg2
            have hb9 := Below.of_blk (B := w1.heap.size) hb3 (fun q hq => hk3 q (by simp only [World.size_alloc] at hz2; omega) (by simp only [Value.ownBlock, ne_eq, Option.some.injEq]; (simp only [World.size_alloc] at hg2; omega)))
            have hb8 := Below.of_blk (B := w1.heap.size) HB2.out (fun q hq => HK2.out q (by simp only [World.size_alloc]; omega) (by simp only [Value.ownBlock, ne_eq, Option.some.injEq]; omega))
            exact ((B1q.out.trans ((Below.refl _ _).alloc z19 _)).trans hb8).trans hb9
          case measure => simp [intOf]; omega
      · obtain ⟨l, hkl⟩ : ∃ l, k = l + 1 := ⟨k - 1, by omega⟩
        have hlt0 : l < L.length := by omega
        obtain ⟨b0, off0, cap0, hve, hb0, hc0⟩ := Hrow.out.own.rd.open (by intro h; rw [h] at htk; simp at htk; omega)
        rw [htk] at hve
        simp only [Value.slice.injEq, Option.some.injEq, Addr.mk.injEq, true_and, and_true] at hve
        obtain ⟨⟨rfl, rfl⟩, rfl⟩ := hve
        obtain ⟨u0, q0, r0⟩ := hc0 l (by omega)
        rw [take_get (by omega)] at r0
        rw [Nat.zero_add] at q0
        have R0 := Lib.hid r0
        obtain ⟨p0, n0, rfl⟩ := r0.shape
        have E0 := Lib.hid (Hs.out.el l hlt0)
        have Es := Lib.hid (HbefS.out l hkl.symm)
        clear HbefS
        generalize L.getD l [] = B at *
        have hw1 : IntKind.i64.wrap ((k : Int) - 1) = (l : Int) := by rw [show (k : Int) - 1 = (l : Int) by omega]; exact IntWalk.i64_in _ ⟨by omega, by omega⟩
        have hll : (l : Int) < (k : Int) := by omega
        have hl0 : (0 : Int) < (k : Int) := by omega
        have hl1' : (0 : Int) ≤ (l : Int) := by omega
        have Hkl := Lib.hid hkl
        clear hkl
        have hkc : k ≤ co := by
          obtain ⟨ad9, cp9, he9, hc9, _⟩ := Hcap.out
          simp only [Value.slice.injEq] at he9
          have := hc9.1
          rw [htk] at this
          omega
        have hkc2 : (k : Int) ≤ (co : Int) := by omega
        clear hc0 r0
        go_wp2_with fail
        go_loopw [8] (fun av wx => av = .int .i64 (k : Int) ∧ Below wr.heap.size wr wx) (fun _ _ => 0)
        case atStart => exact ⟨rfl, by (repeat' (first | (with_reducible exact Below.refl _ _) | (with_reducible assumption) | (with_reducible refine Below.alloc ?_ ?_ _) | (with_reducible refine Below.setCell ?_ ?_ _) | (with_reducible refine Below.drew ?_) | (with_reducible refine Below.via (by assumption) ?_ ?_) | go_size))⟩
        case round =>
          obtain ⟨rfl, hbx⟩ := hrel
          have Hbx := Lib.hid hbx
          have zx := hbx.size
          have R1x := Lib.hid (R1.out.below hbx)
          have R0x := Lib.hid (R0.out.below hbx)
          have c2 := (hbx.cell (p := ⟨g, k, none⟩) (World.block_lt_of_cell? _ _ c1)).trans c1
          have c3 := (hbx.cell (p := ⟨go, l, none⟩) hb0).trans q0
          clear c1 q0 hbx
          have hgl := World.block_lt_of_cell? _ _ c2
          simp only at hgl
          go_wp2_with fail
          go_region_held3 (fun w' => w'.cell? ⟨g, k, none⟩ = some (.slice (some ⟨f (k), 0, none⟩) A.length (c (k))) ∧ w'.cell? ⟨go, l, none⟩ = some (.slice p0 B.length n0))
            (((try dsimp only); (try go_split_ands); refine ⟨?_, ?_⟩ <;> (first | assumption | (rw [hbc.cell (by first | omega | (simp <;> omega))]; assumption) | (refine (((Below.refl _ _).alloc (Nat.le_refl _) _).cell (by first | omega | (simp <;> omega))).trans (by assumption)) | (go_keep; done))))
            (first | (go_at_call 141; ((have T1 := before_spec _ _ A B wr.drew (R1x.out.below ((Below.refl _ _).drew)) (R0x.out.below ((Below.refl _ _).drew)) Hl1.out.1 E0.out.1 Hl1.out.2.1 E0.out.2.1); (refine T1.mono ?_); (rintro e wb ⟨mb, rfl, rfl⟩); (rw [Es.out]); (have hbc := drewN_below wr.drew mb))))
          generalize hwq : World.drewN _ _ = wq
          have Bq := Lib.hid (show Below wr.heap.size wr wq by rw [← hwq]; exact drewN_below _ _)
          have c4 := (Bq.out.cell (p := ⟨g, k, none⟩) hgl).trans c2
          have hgl2 := World.block_lt_of_cell? _ _ c4
          simp only at hgl2
          have zq := Bq.out.size
          have HelQ := Lib.hid ((((Hel1.out.mono Hlo.out).below Hbel.out).below Hbx.out).below Bq.out)
          have hlowq := Lib.hid (fun b (hb : Xfrom f (k) L.length b) => Nat.lt_of_lt_of_le (Nat.lt_of_lt_of_le (Hlow.out b hb) zx) zq)
          have zw9 : w.heap.size ≤ wq.heap.size := by omega
          have z19 : w1.heap.size ≤ wq.heap.size := by omega
          have B1q := Lib.hid (show Below w1.heap.size w1 wq from (Hbel.out.trans (Hbx.out.mono hsz)).trans (Bq.out.mono (by omega)))
          clear hwq hgl
          have HrowQ := Lib.hid (show RowX 27 wq w.heap.size (Xfrom f (k) L.length) (.slice (some ⟨go, 0, none⟩) k co) (L.take (k)) from (Hrow.out.below Hbx.out).below Bq.out)
          go_wp2_with (first | (at_builtin; refine wpList_cloneX (W := wq) (X := Xfrom f (k) L.length) (v := .slice (some ⟨go, 0, none⟩) k co) (ls := L.take (k)) (B := w.heap.size) infoW rfl HrowQ.out (fun b hb => hlowq.out b hb) rfl _ _ rfl wholeS_under (by rw [htk]; omega) zw9 rfl rfl rfl ?_; intro g1 cap1 y1 hg1 hr1 hb1; rw [htk]; rw [htk] at hr1; have hz1 := hb1.size; have c5 := (hb1.cell (p := ⟨g, k, none⟩) hgl2).trans c4; have hgl3 := World.block_lt_of_cell? _ _ c5; simp only at hgl3) | (at_builtin; refine wpList_pushX (W := y1) (B := w.heap.size) (X := Xfrom f (k) L.length) (X' := Xfrom f (k + 1) L.length) infoW rfl hr1 ⟨k, Nat.le_refl _, hlt, rfl⟩ Hne.out (fun b hb => ⟨xfrom_weak hb, by have := hlowq.out b (xfrom_weak hb); omega⟩) (HelQ.out.below hb1) rfl _ _ rfl wholeS_under (by rw [htk]; omega) (by omega) rfl rfl (by first | rfl | simp) ?_; intro v2 y2 hr2 hb2 hk2 hq2; have hz2 := hb2.size; have HR2 := Lib.hid hr2; have HB2 := Lib.hid hb2; have HK2 := Lib.hid hk2; have HQ2 := Lib.hid hq2; obtain ⟨g2, cap2, rfl⟩ := hr2.shape; rw [show (L.take (k) ++ [A]).length = k + 1 by rw [List.length_append, htk]; rfl] at HR2; clear hr2 hb2 hk2 hq2) | (at_builtin; (refine wpList_noneX (W := y2) (ad := if co = k then ⟨go, 0, none⟩ else ⟨go, k, none⟩) (c := co - k) (B := w.heap.size) (X := Xfrom f (k + 1) L.length) infoW rfl HR2.out (fun b hb => by have h1 := hlowq.out b (xfrom_weak hb); omega) rfl _ _ rfl wholeS_under (by simp only [List.length_append, List.length_singleton, htk]; omega) (by omega) rfl (by show Value.slice (if co = k then some ⟨go, 0, none⟩ else some ⟨go, k, none⟩) 0 (co - k) = Value.slice (some (if co = k then ⟨go, 0, none⟩ else ⟨go, k, none⟩)) 0 (co - k); split <;> rfl) ?_); intro v3 y3 hr3 hb3 hk3 hq3; have hz3 := hb3.size))
          all_goals
            go_roundw
            case rel =>
              refine ⟨k + 1, by omega, by go_num, by rw [← Htk.out]; exact hr3, ?_⟩
              have hg2 := HQ2.out g2 _ cap2 rfl
              simp only [Value.ownBlock, Option.some.injEq] at hg2
              have hb9 := Below.of_blk (B := w1.heap.size) hb3 (fun q hq => hk3 q (by omega) (by simp only [Value.ownBlock, ne_eq, Option.some.injEq]; omega))
              have hb8 := Below.of_blk (B := w1.heap.size) HB2.out (fun q hq => HK2.out q (by omega) (by simp only [Value.ownBlock, ne_eq, Option.some.injEq]; omega))
              exact ((B1q.out.trans (hb1.mono z19)).trans hb8).trans hb9
            case measure => simp [intOf]; omega
    · obtain rfl : k = L.length := by omega
      go_wp2_with fail
      go_ret
      exact ⟨_, rfl, by have h := Hrow.out.own; rw [List.take_length] at h; exact h, BW.out.trans (hbel.mono zw)⟩

end Go.Proofs.Ytlnjkjogedbhfaa
