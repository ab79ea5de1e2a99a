/- Division over a prime: the walks. Conditions: terms are remainders of a small prime, lengths of at most 100. -/
import Derived.Test.YtlnjkjogedbhfaaI8
import Derived.Lib.SliceRun
namespace Go.Proofs.Ytlnjkjogedbhfaa
open Go Go.RowKit
set_option linter.unusedSimpArgs false
set_option linter.unusedVariables false

theorem rest_call (n m : Int) (w : World) (hm : 0 < m) (hm2 : m ≤ 1000000) (h1 : -1000000000000000 ≤ n) (h2 : n ≤ 1000000000000000) : Calls Try.prog 85 #[.int .i64 n, .int .i64 m] w fun e w' => e = .returned (.int .i64 (n % m)) ∧ w' = w :=
  (rest_impl n m w hm hm2 h1 h2).mono (by rintro e w' ⟨rfl, rfl⟩; exact ⟨rfl, rfl⟩)
theorem mod_call (n m : Int) (w : World) (hm : 0 < m) (hm2 : m ≤ 1000000) (h1 : -1000000000000000 ≤ n) (h2 : n ≤ 1000000000000000) : Calls Try.prog 73 #[.int .i64 n, .int .i64 m] w fun e w' => e = .returned (.int .i64 (n % m)) ∧ w' = w :=
  (mod_spec n m w hm hm2 h1 h2).mono (by rintro e w' ⟨rfl, rfl⟩; exact ⟨rfl, rfl⟩)

set_option maxRecDepth 100000 in
theorem clone_impl (v : Value) (zs : List Int) (w : World) (hv : RdI w v zs) (hn : zs ≠ []) (hl : zs.length ≤ 1099511627776) : Calls Try.prog 94 #[v] w fun e w' => ∃ g cap, e = .returned (.slice (some ⟨g, 0, none⟩) zs.length cap) ∧ w.heap.size ≤ g ∧ RowI w' w.heap.size (.slice (some ⟨g, 0, none⟩) zs.length cap) zs ∧ Below w.heap.size w w' := by
  have Hv := Lib.hid hv
  obtain ⟨b, off, cap, rfl, hb, hc⟩ := hv.open hn
  clear hv hc
  have e1 := fun w1 : World => Lib.run_eql_slice_nil (P := Try.prog) w1 24 2 (some ⟨b, off, none⟩) zs.length cap 0 0 int64S_under
  go_enter Try.func94, Try.ntmps94
  go_wp2_with (at_builtin; go_must (refine wpList_cloneR rfl _ _ rfl int64S_under Hv.out hn hl rfl rfl rfl ?_); intro g1 cap1 w1 hg1 hrow hbel)
  go_ret
  exact ⟨g1, cap1, rfl, hg1, hrow, hbel⟩

theorem RowI.lt {w : World} {B g n cap : Nat} {zs : List Int} (h : RowI w B (.slice (some ⟨g, 0, none⟩) n cap) zs) : g < w.heap.size := by
  rcases h.2 with ⟨h, _⟩ | ⟨g', _, _, h, _, hg, _⟩
  · simp at h
  · simp only [Value.slice.injEq, Option.some.injEq, Addr.mk.injEq, and_true] at h
    rw [h.1]
    exact (Array.getElem?_eq_some_iff.1 hg).1
theorem RowI.setOther {w : World} {B g n cap : Nat} {zs : List Int} (h : RowI w B (.slice (some ⟨g, 0, none⟩) n cap) zs) {p : Addr} (hp : g ≠ p.block) (u : Value) : RowI (w.setCell p u) B (.slice (some ⟨g, 0, none⟩) n cap) zs := by
  refine ⟨h.1, ?_⟩
  rcases h.2 with ⟨h, _⟩ | ⟨g', c, cur, h1, h2, h3, h4⟩
  · simp at h
  · refine .inr ⟨g', c, cur, h1, h2, ?_, h4⟩
    simp only [Value.slice.injEq, Option.some.injEq, Addr.mk.injEq, and_true] at h1
    rw [Below.heap_setCell w p u g' (by rw [← h1.1]; exact hp)]
    exact h3
theorem RowI.mono {w : World} {B B' : Nat} {v : Value} {zs : List Int} (h : RowI w B v zs) (hb : B' ≤ B) : RowI w B' v zs := by
  refine ⟨h.1, ?_⟩
  rcases h.2 with h | ⟨g', c, cur, h1, h2, h3⟩
  · exact .inl h
  · exact .inr ⟨g', c, cur, h1, Nat.le_trans hb h2, h3⟩
theorem invZ_bd (x m : Int) (h : 0 < m) : 0 ≤ invZ x m ∧ invZ x m < m := by
  unfold invZ
  cases h1 : (List.range m.toNat).find? fun y : Nat => (x * (y : Int)) % m == 1 with
  | none => simp; omega
  | some y =>
    have := List.mem_range.1 (List.mem_of_find?_eq_some h1)
    simp only [Option.getD_some]
    omega

theorem div_bound {q y l m : Int} (hq : 0 ≤ q ∧ q < m) (hy : 0 ≤ y ∧ y < m) (hl : 0 ≤ l ∧ l < m) (hm : m ≤ 13) : 0 ≤ q * y ∧ q * y ≤ 200 ∧ -1000 ≤ l - q * y ∧ l - q * y ≤ 1000 := by
  have h1 := Int.mul_nonneg hq.1 hy.1
  have h2 : q * y ≤ 13 * 13 := Int.le_trans (Int.mul_le_mul_of_nonneg_left (show y ≤ 13 by omega) hq.1) (Int.mul_le_mul_of_nonneg_right (by omega) (by omega))
  omega
def RL2 (F : List Int × List Int) (w : World) (e : Ending) (w' : World) : Prop := ∃ v u, e = .returned (.tuple #[v, u]) ∧ OwI w' w.heap.size v F.1 ∧ OwI w' w.heap.size u F.2 ∧ Below w.heap.size w w'
set_option maxRecDepth 100000 in
set_option maxHeartbeats 800000 in
theorem divide_spec (va vb : Value) (a b : List Int) (m : Int) (w : World) (ha : RdI w va a) (hb : RdI w vb b) (hm : primeB m = true) (hoa : OvI m a) (hob : OvI m b) (hla : a ≠ []) (hlb : b ≠ []) (hla2 : a.length ≤ 100) (hlb2 : b.length ≤ 100) : Calls Try.prog 76 #[va, vb, .int .i64 m] w (RL2 (divS a b m) w) := by
  have hmp := primeB_bd hm
  have ha1 : 0 < a.length := List.length_pos_iff.2 hla
  have hb1 : 0 < b.length := List.length_pos_iff.2 hlb
  have Ha := Lib.hid ha
  obtain ⟨ba, oa, ca, rfl, hsa, hca⟩ := ha.open hla
  obtain ⟨bb, ob, cb, rfl, hsb, hcb⟩ := hb.open hlb
  have Hcb := Lib.hid hcb
  clear ha hb hca hcb
  by_cases hab : a.length < b.length
  · have Hd := Lib.hid (show divS a b m = ([0], trimS a) from if_pos hab)
    go_enter Try.func76, Try.ntmps76
    go_wp2_with (first | (go_at_call 74; go_must (refine (trim_spec _ a _ (hr1.own.rd.alloc _) (by omega)).mono ?_); rintro e w' ⟨v1, rfl, ho1, hb1⟩; obtain ⟨chb1, fhb1⟩ := bcell hb1; have zhb1 := hb1.size; (try simp only [World.size_alloc, World.size_setCell, World.size_drew] at zhb1); (try have lhb1 : w.heap.size < w'.heap.size := by omega)) | (at_builtin; refine wpList_cloneR rfl _ _ rfl int64S_under Ha.out hla (by omega) rfl rfl rfl ?_; intro g1 cap1 w1 hg1 hr1 hbl1; have zl1 := hbl1.size))
    go_ret2
    rw [Hd.out]
    have h0 : OwI (w1.alloc (.cells #[.int .i64 0] 2)) w1.heap.size (.slice (some ⟨w1.heap.size, 0, none⟩) 1 1) [0] := OwI.of_row (n := 1) (World.ownsRow_lit (base := w1.heap.size) (size := 1) w1 _ 1 (Nat.le_refl _) (by decide) rfl)
    exact ⟨_, _, rfl, (h0.below hb1).mono zl1, ho1.mono (by simp; omega), by (repeat' (first | (with_reducible exact Below.refl _ _) | (with_reducible assumption) | (with_reducible refine Below.alloc ?_ ?_ _) | (with_reducible refine Below.setCell ?_ ?_ _) | (with_reducible refine Below.drew ?_) | (with_reducible refine Below.via (by assumption) ?_ ?_) | go_size))⟩
  · have hcnt : b.length ≤ a.length := by omega
    have hlz : 0 ≤ lastZ b ∧ lastZ b < m := hob (b.length - 1)
    have Hd := Lib.hid (show divS a b m = (trimS (divLO a b m).2, trimS (divLO a b m).1) from if_neg hab)
    have c0 := Hcb.out (b.length - 1) (by omega)
    rw [← lastZ] at c0
    have hi0 := invZ_bd (lastZ b) m (by omega)
    have Hgo := Lib.hid (show divGo b m (invZ (lastZ b) m) (a.length - b.length + 1) (a, List.replicate (a.length - b.length + 1) 0) = divLO a b m from rfl)
    generalize lastZ b = lb at *
    go_enter Try.func76, Try.ntmps76
    go_wp2_with (first | (go_at_call 127; go_must (refine (inverse_spec _ _ _ (by omega) (by omega) (by omega) (by omega)).mono ?_); rintro e w' ⟨rfl, rfl⟩) | (at_builtin; refine wpList_cloneR rfl _ _ rfl int64S_under Ha.out hla (by omega) rfl rfl rfl ?_; intro g1 cap1 w1 hg1 hr1 hbl1; have zl1 := hbl1.size; have lg1 := hr1.lt; have c0 := (hbl1.cell (p := ⟨bb, ob + (b.length - 1), none⟩) hsb).trans c0) | (at_make; refine wpList_makeI _ rfl _ _ _ rfl int64S_under _ _ (a.length - b.length + 1) rfl rfl (by omega) (by omega) (by omega) ?_; intro w2 hr2 hbl2 hlt2; have zl2 := hbl2.size; have c0 := (hbl2.cell (p := ⟨bb, ob + (b.length - 1), none⟩) (Nat.lt_of_lt_of_le hsb zl1)).trans c0))
    have Hbl := Lib.hid (hbl1.trans (hbl2.mono zl1))
    have Hr1 := Lib.hid (hr1.below hbl2)
    have Hr2 := Lib.hid (hr2.mono zl1)
    clear hr1 hr2 c0
    go_loopw [12] (fun i wr => ∃ (k : Nat) (L O : List Int), k ≤ (a.length - b.length + 1) ∧ i = .int .i64 ((k : Int) - 1) ∧ RowI wr w.heap.size (.slice (some ⟨g1, 0, none⟩) a.length cap1) L ∧ RowI wr w.heap.size (.slice (some ⟨w1.heap.size, 0, none⟩) (a.length - b.length + 1) (a.length - b.length + 1)) O ∧ divGo b m (invZ lb m) k (L, O) = divLO a b m ∧ OvI m L ∧ L.length = a.length ∧ O.length = (a.length - b.length + 1) ∧ Below w.heap.size w wr) (fun i _ => (intOf i + 1).toNat)
    case atStart => exact ⟨(a.length - b.length + 1), a, _, Nat.le_refl _, by go_num, Hr1.out, Hr2.out, Hgo.out, hoa, rfl, by simp, Hbl.out⟩
    case round =>
      obtain ⟨k0, L, O, hk, rfl, hrL, hrO, hgo, hov, hlL, hlO, hbel⟩ := hrel
      have HrO := Lib.hid hrO
      have HrL := Lib.hid hrL
      have Hbel := Lib.hid hbel
      have Hgo2 := Lib.hid hgo
      clear hrL hrO hgo
      cases k0 with
      | zero =>
        clear hov
        have HLO := Lib.hid (show (L, O) = divLO a b m by have h := Hgo2.out; rw [divGo] at h; exact h)
        have hsz := hbel.size
        have Hbel3 := Lib.hid hbel
        clear hbel
        go_wp2_with (go_at_call 74; first | (refine (trim_spec _ L _ (HrL.out.own.rd.below hb1) (by omega)).mono ?_; rintro e w' ⟨v2, rfl, ho2, hb2⟩) | (refine (trim_spec _ O _ HrO.out.own.rd (by omega)).mono ?_; rintro e w' ⟨v1, rfl, ho1, hb1⟩; have zb1 := hb1.size))
        go_ret2
        rw [Hd.out, ← HLO.out]
        have h3 := Hbel3.out
        exact ⟨_, _, rfl, (ho1.below hb2).mono hsz, ho2.mono (by omega), by (repeat' (first | (with_reducible exact Below.refl _ _) | (with_reducible assumption) | (with_reducible refine Below.alloc ?_ ?_ _) | (with_reducible refine Below.setCell ?_ ?_ _) | (with_reducible refine Below.drew ?_) | (with_reducible refine Below.via (by assumption) ?_ ?_) | go_size))⟩
      | succ k =>
        have c2 := HrL.out.cell (j := k + b.length - 1) (by omega)
        have hl := hov (k + b.length - 1)
        have Hq := Lib.hid (show divQ b m (invZ lb m) k L = (L.getD (k + b.length - 1) 0 * invZ lb m) % m by rw [divQ, show k + (b.length - 1) = k + b.length - 1 by omega])
        have hp := div_bound hl hi0 (show 0 ≤ (0 : Int) ∧ (0 : Int) < m by omega) (by omega)
        have c3 := HrO.out.cell (j := k) (by omega)
        have c4 := HrO.out.frozen k
        generalize O.getD k 0 = oldq at c3
        generalize L.getD (k + b.length - 1) 0 = l at *
        generalize hpe : l * invZ lb m = li at *
        have hq : 0 ≤ li % m ∧ li % m < m := ⟨Int.emod_nonneg _ (by omega), Int.emod_lt_of_pos _ (by omega)⟩
        have hpe2 : li.tmod m = li % m := Int.tmod_eq_emod_of_nonneg (by omega)
        have hm0 : m ≠ 0 := by omega
        generalize hqe : li % m = q at *
        clear hbel
        rw [show (((k + 1 : Nat) : Int) - 1) = (k : Int) by omega]
        go_wp2
        go_loopw [65] (fun jj w3 => ∃ j : Nat, j ≤ b.length ∧ jj = .int .i64 j ∧ RowI w3 w.heap.size (.slice (some ⟨g1, 0, none⟩) a.length cap1) (subRow q b m k L j) ∧ RowI w3 w.heap.size (.slice (some ⟨w1.heap.size, 0, none⟩) (a.length - b.length + 1) (a.length - b.length + 1)) (O.set k q) ∧ Below w.heap.size w w3) (fun jj _ => b.length - (intOf jj).toNat)
        case atStart => exact ⟨0, Nat.zero_le _, rfl, HrL.out.setOther (by simp; omega) _, HrO.out.set k q, by have h := Hbel.out; (repeat' (first | (with_reducible exact Below.refl _ _) | (with_reducible assumption) | (with_reducible refine Below.alloc ?_ ?_ _) | (with_reducible refine Below.setCell ?_ ?_ _) | (with_reducible refine Below.drew ?_) | (with_reducible refine Below.via (by assumption) ?_ ?_) | go_size))⟩
        case round =>
          obtain ⟨j, hj, rfl, hrL2, hrO2, hbel2⟩ := hrel
          have HrL2 := Lib.hid hrL2
          have HrO2 := Lib.hid hrO2
          have Hbel2 := Lib.hid hbel2
          clear hrL2 hrO2
          by_cases hlt : j < b.length
          · have hls : (subRow q b m k L j).length = a.length := by rw [subRow_length, hlL]
            have c5 := HrL2.out.cell (j := k + j) (by omega)
            have c6 := HrL2.out.frozen (k + j)
            have c7 := (hbel2.cell (p := ⟨bb, ob + j, none⟩) hsb).trans (Hcb.out j hlt)
            have hl2 := subRow_ov (q := q) (k := k) (by omega) hov (show k + b.length ≤ L.length by omega) j (by omega) (k + j)
            have hpb := div_bound hq (hob j) hl2 (by omega)
            have H2 := Lib.hid (HrL2.out.set (k + j) (((subRow q b m k L j).getD (k + j) 0 - q * b.getD j 0) % m))
            have H3 := Lib.hid (show subRow q b m k L (j + 1) = (subRow q b m k L j).set (k + j) (((subRow q b m k L j).getD (k + j) 0 - q * b.getD j 0) % m) from rfl)
            clear hov hbel2
            generalize (subRow q b m k L j).getD (k + j) 0 = l2 at *
            generalize b.getD j 0 = y at *
            generalize hqy : q * y = qy at *
            have q1 : IntKind.i64.wrap ((k : Int) + j) = (k : Int) + j := IntWalk.i64_in _ ⟨by omega, by omega⟩
            have q2 : (k : Int) + j < (a.length : Int) := by omega
            have q3 : ((k : Int) + j).toNat = k + j := by omega
            have q4 : IntKind.i64.wrap qy = qy := IntWalk.i64_in _ ⟨by omega, by omega⟩
            have q5 : IntKind.i64.wrap (l2 - qy) = l2 - qy := IntWalk.i64_in _ ⟨by omega, by omega⟩
            have q6 : (0 : Int) ≤ (k : Int) + j := by omega
            go_wp2
            (refine wp_region_still_tail 20 (by kernel_rfl) (by kernel_rfl) ?_; simp only [List.take_succ_cons, List.take_zero, List.drop_succ_cons, List.drop_zero]; repeat (first | still_step | still_call (mod_call _ _ _ (by omega) (by omega) (by omega) (by omega))); (try refine wpStill_nil ?_))
            change wpList _ _ _ _ _ (World.drew _)
            go_wp2
            go_roundw
            case rel =>
              refine ⟨j + 1, by omega, by go_num, ?_, ?_, ?_⟩
              · rw [H3.out]; exact H2.out
              · exact HrO2.out.setOther (by simp; omega) _
              · have h3 := Hbel2.out; (repeat' (first | (with_reducible exact Below.refl _ _) | (with_reducible assumption) | (with_reducible refine Below.alloc ?_ ?_ _) | (with_reducible refine Below.setCell ?_ ?_ _) | (with_reducible refine Below.drew ?_) | (with_reducible refine Below.via (by assumption) ?_ ?_) | go_size))
            case measure => simp [intOf] <;> omega
          · obtain rfl : j = b.length := by omega
            clear hbel2
            go_wp2
            go_roundw
            case rel =>
              refine ⟨k, _, _, by omega, by go_num, HrL2.out, HrO2.out, ?_, subRow_ov (by omega) hov (by omega) _ (Nat.le_refl _), by rw [subRow_length, hlL], by rw [List.length_set, hlO], Hbel2.out⟩
              have h := Hgo2.out
              simp only [divGo, Hq.out] at h
              exact h
            case measure => simp [intOf] <;> omega

end Go.Proofs.Ytlnjkjogedbhfaa
