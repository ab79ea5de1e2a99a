/- Factors over a prime: the reference's list. Conditions: a prime, degrees 1 to 6. -/
import Derived.Test.YtlnjkjogedbhfaaI40
import Derived.Test.YtlnjkjogedbhfaaIWf
import Derived.Test.YtlnjkjogedbhfaaI18
namespace Go.Proofs.Ytlnjkjogedbhfaa
open Go Go.RowKit
set_option linter.unusedSimpArgs false
set_option linter.unusedVariables false

theorem RowX.ne {T : TypeId} {w : World} {B g n cap : Nat} {X : Nat → Prop} {ls : List (List Int)} (h : RowX T w B X (.slice (some ⟨g, 0, none⟩) n cap) ls) : ¬ X g := by
  obtain ⟨g', cap', f, c, hv, hr, he, hg, _⟩ := h
  simp only [Value.slice.injEq, Option.some.injEq, Addr.mk.injEq, and_true] at hv
  rw [hv.1]; exact hg
theorem RowI.blk {w w' : World} {B g n cap : Nat} {zs : List Int} (h : RowI w B (.slice (some ⟨g, 0, none⟩) n cap) zs) (hb : w'.heap[g]? = w.heap[g]?) : RowI w' B (.slice (some ⟨g, 0, none⟩) n cap) zs := by
  have h1 : w.ownsRow B 2 1 (.slice (some ⟨g, 0, none⟩) n cap) zs.length (cellsI zs) := h
  obtain ⟨rfl, _⟩ := ownsRow_open h1
  exact ownsRow_block h1 hb
/-- The list of factors, of the call's own. -/
def RLs (L : List (List Int)) (w : World) (e : Ending) (w' : World) : Prop := ∃ v, e = .returned v ∧ OwWs w' w.heap.size w'.heap.size v L ∧ Below w.heap.size w w'
/-- At the head of the outer loop. -/
def FsO (M : Nat) (L : List (List Int)) (w : World) (d : Nat) (nv ov : Value) (wr : World) : Prop :=
  ∃ now acc L' pn cn, nv = .slice (some ⟨pn, 0, none⟩) now.length cn ∧ OwI wr w.heap.size nv now ∧ RowX 24 wr w.heap.size (fun k => k = pn) ov acc ∧ Fs M d 0 now L' ∧ acc ++ L' = L ∧ Mon M now ∧ now.length ≤ 7 ∧ acc.length ≤ 7 ∧ Below w.heap.size w wr
/-- At the head of the inner loop. -/
def FsN (M : Nat) (L : List (List Int)) (w : World) (d gt : Nat) (g : Nat) (nv ov okv : Value) (wr : World) : Prop :=
  ∃ now acc L' pn cn n ok zs, nv = .slice (some ⟨pn, 0, none⟩) now.length cn ∧ okv = .bool ok ∧ OwI wr w.heap.size nv now ∧ RowX 24 wr w.heap.size (fun k => k = pn ∨ k = gt) ov acc ∧ RowI wr w.heap.size (.slice (some ⟨gt, 0, none⟩) (d + 1) (d + 1)) zs ∧ pn ≠ gt ∧
    Fs M d n now L' ∧ (ok = true → zs = cand M d n ∧ n < M ^ d) ∧ (ok = false → n = M ^ d ∧ 2 * d ≤ now.length - 1) ∧ acc ++ L' = L ∧ Mon M now ∧ now.length ≤ 7 ∧ acc.length ≤ 7 ∧ g = now.length * (M ^ d + 2) + (if ok then M ^ d - n + 1 else 0) ∧ Below w.heap.size w wr

set_option maxRecDepth 100000 in
set_option maxHeartbeats 8000000 in
theorem factors_spec (va : Value) (a now0 : List Int) (M : Nat) (L : List (List Int)) (w : World) (ha : RdI w va a) (hm : primeB (M : Int) = true) (hov : Ovr M a) (hz : zeroB a = false) (hl : a.length ≤ 7) (hmo : monicS M a = now0) (hmn : Mon M now0) (hf : Fs M 1 0 now0 L) (hL7 : L.length ≤ 7) : Calls Try.prog 140 #[va, .int .i64 M] w (RLs L w) := by
  have Ha := Lib.hid ha
  have Hm := Lib.hid hm
  have hM := primeB_bd hm
  have hov' := Lib.hid hov
  have Hz := Lib.hid hz
  have Hmo := Lib.hid hmo
  have Hmn := Lib.hid hmn
  have Hf := Lib.hid hf
  have hln : now0.length ≤ 7 := by rw [← hmo, monicS_length]; exact hl
  obtain ⟨aoa, ca, rfl⟩ := ha.shape
  clear ha hm hov hz hmo hmn hf
  go_enter Try.func140, Try.ntmps140
  go_wp2_with fail
  (go_at_call 126; ((with_reducible refine (monic_own _ a M _ Ha.out hov'.out.ne (by omega) hov'.out.ov Hm.out Hz.out).mono ?_); rintro e w1 ⟨v1, rfl, o1, h1⟩))
  rw [Hmo.out] at o1
  obtain ⟨pn0, cn0, he1, hB1, hs1, _, _, _⟩ := o1.open Hmn.out.ov.ne
  subst he1
  have O1 := Lib.hid o1
  have z1 := h1.size
  clear o1
  go_wp2_with fail
  go_loopw [5, 6, 7] (fun nv ov i wr => ∃ d : Nat, 1 ≤ d ∧ d ≤ 4 ∧ i = .int .i64 d ∧ FsO M L w d nv ov wr) (fun _ _ i _ => 5 - (intOf i).toNat)
  case atStart =>
    refine ⟨1, Nat.le_refl _, by omega, by go_num, now0, [], L, pn0, cn0, rfl, (O1.out.below (by (repeat' (first | (with_reducible exact Below.refl _ _) | (with_reducible assumption) | (with_reducible refine Below.alloc ?_ ?_ _) | (with_reducible refine Below.setCell ?_ ?_ _) | (with_reducible refine Below.drew ?_) | (with_reducible refine Below.via (by assumption) ?_ ?_) | go_size)))), RowX.empty rfl (by omega) (by intro h; omega), Hf.out, rfl, Hmn.out, by omega, by simp, by (repeat' (first | (with_reducible exact Below.refl _ _) | (with_reducible assumption) | (with_reducible refine Below.alloc ?_ ?_ _) | (with_reducible refine Below.setCell ?_ ?_ _) | (with_reducible refine Below.drew ?_) | (with_reducible refine Below.via (by assumption) ?_ ?_) | go_size))⟩
  case round =>
    obtain ⟨d, hd1, hd4, rfl, now, acc, L', pn, cn, rfl, hown, hrow, hfs, hacc, hmon, hl7, ha7, hbel⟩ := hrel
    have Hown := Lib.hid hown
    have Hrow := Lib.hid hrow
    have Hfs := Lib.hid hfs
    have Hacc := Lib.hid hacc
    have Hmon := Lib.hid hmon
    have Hbel := Lib.hid hbel
    obtain ⟨gR, cR, rfl⟩ := hrow.shape
    have hpn := hown.cases1.2.2.1
    have hlR := hrow.lt
    have hnR := hrow.ne
    have hbs := hbel.size
    have hl1 := hmon.ov.trd.1
    clear hown hrow hfs hacc hmon hbel
    have hw1 : IntKind.i64.wrap (2 * (d : Int)) = 2 * (d : Int) := IntWalk.i64_in _ ⟨by omega, by omega⟩
    have hw2 : IntKind.i64.wrap ((now.length : Int) - 1) = (now.length : Int) - 1 := IntWalk.i64_in _ ⟨by omega, by omega⟩
    have hw3 : IntKind.i64.wrap ((d : Int) + 1) = (d : Int) + 1 := IntWalk.i64_in _ ⟨by omega, by omega⟩
    by_cases h2 : 2 * d ≤ now.length - 1
    · have h2' : 2 * (d : Int) ≤ (now.length : Int) - 1 := by omega
      have hd3 : d ≤ 3 := by omega
      have hdl : d < d + 1 := Nat.lt_succ_self d
      go_wp2_with (at_make; refine wpList_makeI _ rfl _ _ _ rfl int64S_under _ _ (d + 1) rfl rfl (by omega) (by omega) (by omega) ?_; intro w2 hr2 hbl2 hlt2; have zl2 := hbl2.size; have c2 := hr2.cell (j := d) (by simp); have c3 := hr2.frozen d)
      have Hr2 := Lib.hid (hr2.set d 1)
      have Hbl2 := Lib.hid hbl2
      have HO := Lib.hid ((Only.refl wr.heap.size (wr.heap.size + 1) w2).setCell (p := ⟨wr.heap.size, d, none⟩) (Nat.le_refl _) (Nat.lt_succ_self _) (.int .i64 1))
      generalize hw3' : w2.setCell ⟨wr.heap.size, d, none⟩ (.int .i64 1) = w3 at *
      clear hr2 hbl2 c2 c3
      have hpg : pn ≠ wr.heap.size := by omega
      have S0 : FsN M L w d wr.heap.size (now.length * (M ^ d + 2) + (M ^ d - 0 + 1)) (.slice (some ⟨pn, 0, none⟩) now.length cn) (.slice (some ⟨gR, 0, none⟩) acc.length cR) (.bool true) w3 := by
        refine ⟨now, acc, L', pn, cn, 0, true, _, rfl, rfl, ?_, ?_, Hr2.out.mono hbs, hpg, Hfs.out, fun _ => ⟨?_, Nat.pow_pos (by omega)⟩, fun h => (by cases h), Hacc.out, Hmon.out, hl7, ha7, by simp, ?_⟩
        · exact (Hown.out.below Hbl2.out).block (HO.out.block pn (by omega) (by omega))
        · exact (((Hrow.out.fresh.below Hbl2.out).only (HO.out) (by right; exact Nat.le_refl _)).weak (fun k hk => by rcases hk with rfl | rfl; exact .inl rfl; exact .inr (Nat.le_refl _)))
        · exact cand_start M d (by omega)
        · exact (Hbel.out.trans (Hbl2.out.mono hbs)).trans (HO.out.toBelow hbs (by omega))
      have HS0 := Lib.hid S0
      clear S0 hw3' Hr2 Hbl2 HO Hown Hrow Hfs Hacc Hmon Hbel
      generalize hgt : wr.heap.size = gt at *
      have hgw : w.heap.size ≤ gt := hbs
      clear hw1 hw2 h2 h2' hpn hlR hnR hl1 hl7 ha7 hpg hbs hlt2 zl2 hgt
      go_loopg [5, 6, 9] (now.length * (M ^ d + 2) + (M ^ d - 0 + 1)) (fun g nv ov okv wr => FsN M L w d gt g nv ov okv wr)
      case atStart => exact HS0.out
      case round =>
        clear HS0
        obtain ⟨now, acc, L', pn, cn, n, ok, zs, rfl, rfl, hown, hrow, htry, hpg, hfs, hok1, hok2, hacc, hmon, hl7, ha7, hg, hbel⟩ := hrel
        have Hown := Lib.hid hown
        have Hrow := Lib.hid hrow
        have Htry := Lib.hid htry
        have Hfs := Lib.hid hfs
        have Hok1 := Lib.hid hok1
        have Hok2 := Lib.hid hok2
        have Hacc := Lib.hid hacc
        have Hmon := Lib.hid hmon
        have Hbel := Lib.hid hbel
        have Hg := Lib.hid hg
        obtain ⟨gR, cR, rfl⟩ := hrow.shape
        have hpn := hown.cases1.2.2.1
        have hlR := hrow.lt
        have hlt := htry.lt
        have hbs := hbel.size
        have hl1 := hmon.ov.trd.1
        clear hown hrow htry hfs hok1 hok2 hacc hmon hbel hg
        have hw1 : IntKind.i64.wrap (2 * (d : Int)) = 2 * (d : Int) := IntWalk.i64_in _ ⟨by omega, by omega⟩
        have hw2 : IntKind.i64.wrap ((now.length : Int) - 1) = (now.length : Int) - 1 := IntWalk.i64_in _ ⟨by omega, by omega⟩
        cases ok
        · have hx := Hok2.out rfl
          have Hx := Lib.hid hx
          clear hx
          go_wp2_with fail
          go_roundw
          case rel => exact ⟨d + 1, by omega, by omega, by go_num, now, acc, L', pn, cn, rfl, Hown.out, Hrow.out.weak (fun k hk => .inl hk), fs_leave Hfs.out (.inr Hx.out.1), Hacc.out, Hmon.out, hl7, ha7, Hbel.out⟩
          case measure => simp [intOf]; omega
        · by_cases h2 : 2 * d ≤ now.length - 1
          · have h2' : 2 * (d : Int) ≤ (now.length : Int) - 1 := by omega
            obtain ⟨hzs, hn⟩ := Hok1.out rfl
            subst hzs
            have Hn := Lib.hid hn
            clear hn
            have hcm := Lib.hid (cand_mon (M := M) (n := n) Hm.out (show d ≤ 99 by omega))
            have hcl := Lib.hid (cand_length M d n)
            by_cases hdv : Dv M now (cand M d n)
            · have Hdv := Lib.hid hdv
              have Hz := Lib.hid (show zeroB (divF now (cand M d n) M).2 = true by rw [dv_zero]; exact decide_eq_true hdv)
              have Hq := Lib.hid (quo_mon Hm.out Hmon.out hcm.out hdv)
              have Hft := Lib.hid (fs_hit Hfs.out h2 Hn.out hdv)
              clear hdv
              go_wp2_with fail
              (go_at_call 76; ((with_reducible refine (divide_spec2 _ _ now (cand M d n) M _ Hown.out.rd Htry.out.own.rd Hm.out Hmon.out.ov hcm.out.ov (cand_zero hd1)).mono ?_); rintro e w4 ⟨vq, vr, rfl, oq, or, hb4⟩))
              have Hor := Lib.hid or
              obtain ⟨ar, cr, rfl⟩ := or.rd.shape
              obtain ⟨pq, nq, heq, hBq, hsq, _, _, _⟩ := oq.open Hq.out.1.ov.ne
              subst heq
              have Hoq := Lib.hid oq
              have zb4 := hb4.size
              clear or oq
              go_wp2_with fail
              (go_at_call 123; ((with_reducible refine (zero_spec _ _ _ Hor.out.rd (by have := (divF_ovr Hm.out Hmon.out.ov hcm.out.ov (cand_zero hd1)).2.1.len; omega)).mono ?_); rintro e w5 ⟨rfl, rfl⟩))
              rw [Hz.out]
              have Htry4 := Lib.hid (Htry.out.below hb4)
              have Hrow4 := Lib.hid (Hrow.out.fresh.below hb4)
              have nR := Hrow.out.ne
              go_wp2_with (first | (at_builtin; refine wpList_cloneR rfl _ _ rfl int64S_under Htry4.out.own.rd hcm.out.ov.ne (by have := hcl.out; omega) rfl rfl rfl ?_; intro g1 cap1 y1 hg1 hr1 hb1; have zb1 := hb1.size; have zr1 := hr1.lt) | (at_builtin; refine wpList_pushX (X := fun k => k = pq ∨ k = gt ∨ k = g1) (X' := fun k => k = pq ∨ k = gt) infoL (by decide) ((Hrow4.out.fresh.below hb1).weak (fun k hk => (by rcases hk with rfl | rfl | rfl; exact .inl (.inr hBq); exact .inl (.inl (.inr rfl)); exact .inr hg1))) (Or.inr (Or.inr rfl)) (fun h => (by rcases h with h | h <;> omega)) (fun k hk => (by rcases hk with rfl | rfl; exact ⟨.inl rfl, (by omega)⟩; exact ⟨.inr (.inl rfl), (by omega)⟩)) (hr1.own.mono (by omega)) rfl _ _ rfl listS_under (by omega) (by omega) rfl rfl rfl ?_; intro v2 y2 hr2 hb2 hk2 hq2))
              have Hk2 := Lib.hid hk2
              have Hr2 := Lib.hid hr2
              have Hb1 := Lib.hid hb1
              have Hb2 := Lib.hid hb2
              have Hb4 := Lib.hid hb4
              clear hq2 hk2 hr2 hb1 hb2 hb4 hr1
              go_roundg ((quo M now (cand M d n)).length * (M ^ d + 2) + (M ^ d - n + 1))
              case measure =>
                have h1 := Hg.out
                have h3 := Hq.out.2
                rw [hcl.out] at h3
                have h4 := gm_down (C := M ^ d + 2) (show (quo M now (cand M d n)).length + 1 ≤ now.length by omega)
                simp only [if_true] at h1
                omega
              case rel =>
                obtain ⟨L2, hL2, hf2⟩ := Hft.out
                have h3 := Hq.out.2
                rw [hcl.out] at h3
                have hll := congrArg List.length Hacc.out
                rw [hL2, List.length_append, List.length_cons] at hll
                refine ⟨quo M now (cand M d n), acc ++ [cand M d n], L2, pq, nq, n, true, cand M d n, rfl, rfl, ?_, Hr2.out, ?_, (by omega), hf2, fun _ => ⟨rfl, Hn.out⟩, fun h => (by cases h), ?_, Hq.out.1, (by omega), (by rw [List.length_append, List.length_singleton]; omega), (by rw [if_pos rfl]), ?_⟩
                · exact ((Hoq.out.below Hb1.out).block (Hk2.out pq (by omega) (by simp only [Value.ownBlock, ne_eq, Option.some.injEq]; omega))).mono hbs
                · exact (Htry4.out.below Hb1.out).blk (Hk2.out gt (by omega) (by simp only [Value.ownBlock, ne_eq, Option.some.injEq]; omega))
                · rw [List.append_assoc, ← Hacc.out, hL2]; rfl
                · exact ((Hbel.out.trans (Hb4.out.mono hbs)).trans (Hb1.out.mono (by omega))).trans Hb2.out
            · have Hdv := Lib.hid hdv
              have Hz := Lib.hid (show zeroB (divF now (cand M d n) M).2 = false by rw [dv_zero]; exact decide_eq_false hdv)
              clear hdv
              go_wp2_with fail
              (go_at_call 76; ((with_reducible refine (divide_spec2 _ _ now (cand M d n) M _ Hown.out.rd Htry.out.own.rd Hm.out Hmon.out.ov hcm.out.ov (cand_zero hd1)).mono ?_); rintro e w4 ⟨vq, vr, rfl, oq, or, hb4⟩))
              have Hor := Lib.hid or
              obtain ⟨ar, cr, rfl⟩ := or.rd.shape
              obtain ⟨aq, cq, rfl⟩ := oq.rd.shape
              have zb4 := hb4.size
              clear or oq
              go_wp2_with fail
              (go_at_call 123; ((with_reducible refine (zero_spec _ _ _ Hor.out.rd (by have := (divF_ovr Hm.out Hmon.out.ov hcm.out.ov (cand_zero hd1)).2.1.len; omega)).mono ?_); rintro e w5 ⟨rfl, rfl⟩))
              rw [Hz.out]
              go_wp2_with fail
              (go_at_call 146; ((with_reducible refine (next_fac M d n gt w.heap.size (d + 1) _ (Htry.out.below hb4) (by omega) (by omega) (by omega) Hn.out).mono ?_); rintro e w6 ⟨ok, zs6, rfl, hr6, hl6, ho6, ht6, hf6⟩))
              have Hr6 := Lib.hid hr6
              have Ho6 := Lib.hid ho6
              have Ht6 := Lib.hid ht6
              have Hf6 := Lib.hid hf6
              have Hb4 := Lib.hid hb4
              have z6 := ho6.size
              clear hr6 ho6 ht6 hf6 hb4
              go_wp2_with fail
              go_roundg (now.length * (M ^ d + 2) + (if ok then M ^ d - (n + 1) + 1 else 0))
              case measure =>
                have h1 := Hg.out
                have h3 := Hn.out
                simp only [if_true] at h1
                cases ok <;> simp <;> omega
              case rel =>
                refine ⟨now, acc, L', pn, cn, n + 1, ok, zs6, rfl, rfl, ?_, ?_, Hr6.out, hpg, fs_miss Hfs.out h2 Hn.out Hdv.out, fun h => ⟨(Ht6.out h).2, (Ht6.out h).1⟩, fun h => ⟨Hf6.out h, h2⟩, Hacc.out, Hmon.out, hl7, ha7, rfl, ?_⟩
                · exact (Hown.out.below Hb4.out).block (Ho6.out.block pn (by omega) (by omega))
                · exact (Hrow.out.below Hb4.out).only Ho6.out (.inr rfl)
                · exact (Hbel.out.trans (Hb4.out.mono hbs)).trans (Ho6.out.toBelow hgw (by omega))
          · have h2' : ¬ (2 * (d : Int) ≤ (now.length : Int) - 1) := by omega
            go_wp2_with fail
            go_roundw
            case rel => exact ⟨d + 1, by omega, by omega, by go_num, now, acc, L', pn, cn, rfl, Hown.out, Hrow.out.weak (fun k hk => .inl hk), fs_leave Hfs.out (.inl (by omega)), Hacc.out, Hmon.out, hl7, ha7, Hbel.out⟩
            case measure => simp [intOf]; omega
    · have h2' : ¬ (2 * (d : Int) ≤ (now.length : Int) - 1) := by omega
      have HL := Lib.hid (fs_stop Hfs.out (by omega))
      have HL1 := Lib.hid (fun (h : 1 < now.length) => show L = acc ++ [now] by rw [← Hacc.out, HL.out, if_pos h])
      have HL2 := Lib.hid (fun (h : ¬ 1 < now.length) => show L = acc by rw [← Hacc.out, HL.out, if_neg h, List.append_nil])
      by_cases h1 : 1 < now.length
      · have h1' : (1 : Int) < (now.length : Int) := by omega
        go_wp2_with (at_builtin; refine wpList_pushX (X := fun k => k = pn) (X' := fun _ => False) infoL (by decide) Hrow.out rfl id (fun k h => h.elim) Hown.out rfl _ _ rfl listS_under (by omega) (by omega) rfl rfl rfl ?_; intro v2 y2 hr2 hb2 hk2 hq2)
        have Hr2 := Lib.hid hr2
        have Hb2 := Lib.hid hb2
        obtain ⟨g2, c2, rfl⟩ := hr2.shape
        clear hr2 hb2 hk2 hq2
        go_wp2_with fail
        go_ret
        rw [HL1.out h1]
        exact ⟨_, rfl, Hr2.out.own, Hbel.out.trans Hb2.out⟩
      · have h1' : ¬ ((1 : Int) < (now.length : Int)) := by omega
        go_wp2_with fail
        go_ret
        rw [HL2.out h1]
        exact ⟨_, rfl, Hrow.out.own, Hbel.out⟩

end Go.Proofs.Ytlnjkjogedbhfaa
