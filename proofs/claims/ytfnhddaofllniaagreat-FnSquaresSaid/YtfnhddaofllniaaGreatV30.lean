/- Radii of roots, of the reference. Conditions: squared three times; the polynomials between are told. -/
import Derived.Test.YtfnhddaofllniaaGreatV28
import Derived.Test.YtfnhddaofllniaaGreatV29
namespace Go.Proofs.YtfnhddaofllniaaGreat
open Go Go.RowKit
set_option linter.unusedSimpArgs false
set_option linter.unusedVariables false

set_option maxRecDepth 100000 in
set_option maxHeartbeats 1000000 in
theorem own_spec (p : Nat) (v : Value) (rs : List C2) (w : World) (hp : w.cell? ⟨p, 0, none⟩ = some v) (hv : RdV w v (cx rs)) (h1 : 1 ≤ rs.length) (h2 : rs.length ≤ 17) :
    Calls Tryz.prog 53 #[.pointer (some ⟨p, 0, none⟩)] w fun e w' => ∃ v', e = .returned (.agg #[v']) ∧ RdV w' v' (cx rs) ∧ Below w.heap.size w w' := by
  have lp : p < w.heap.size := World.block_lt_of_cell? _ _ hp
  have hn : cx rs ≠ [] := by rw [← List.length_pos_iff, cx_length]; exact h1
  obtain ⟨b, off, cap, rfl, hb, _, hc⟩ := hv.open hn
  rw [cx_length] at hv hp
  have HV := Lib.hid hv
  clear hv hc
  go_enter Tryz.func53, Tryz.ntmps53
  go_upto_region 1 with fail
  have b1 : Below w.heap.size w (w.alloc (.cells #[.slice none 0 0] 28)) := (Below.refl _ _).alloc (Nat.le_refl _) _
  have cc1 : (w.alloc (.cells #[.slice none 0 0] 28)).cell? ⟨w.heap.size, 0, none⟩ = some (.slice none 0 0) := World.cell?_alloc_new w #[.slice none 0 0] 28 0
  have fc1 : (w.alloc (.cells #[.slice none 0 0] 28)).frozen? ⟨w.heap.size, 0, none⟩ = false := by go_simp; try rfl
  have z1 : w.heap.size < (w.alloc (.cells #[.slice none 0 0] 28)).heap.size := by simp
  have cp1 := (b1.cell (p := ⟨p, 0, none⟩) (by simp only; omega)).trans hp
  generalize (w.alloc (.cells #[.slice none 0 0] 28)) = W1 at *
  have HV1 := Lib.hid (HV.out.below b1)
  have lp1 : p < W1.heap.size := by omega
  have B1 := Lib.hid b1
  have CC1 := Lib.hid cc1
  have FC1 := Lib.hid fc1
  clear b1 cc1 fc1 hp HV
  go_wp2_with (at_builtin; go_must (refine wpList_cloneV (.complex .f32 0 0) 8 infoC rfl (cx_one rs) (by decide) rfl _ _ rfl Tryz.underlying25 HV1.out hn (by rw [cx_length]; omega) rfl rfl rfl ?_); intro g1 cap1 w1 hg1 ho1 hb1; rw [cx_length] at ho1 ⊢; have z2 := hb1.size; have ccw := (hb1.cell (p := ⟨w.heap.size, 0, none⟩) (by simp only; omega)).trans CC1.out; have fcw : w1.frozen? ⟨w.heap.size, 0, none⟩ = false := (by rw [(bcell hb1).2 _ _ (by omega)]; exact FC1.out); have lw1 : w.heap.size < w1.heap.size := (by omega); have HO1 := Lib.hid ho1; have HB1 := Lib.hid hb1; clear ho1 hb1)
  have OS := own_set (j := 0) HO1.out (show w.heap.size < W1.heap.size by omega) (.slice (some ⟨g1, 0, none⟩) rs.length cap1)
  have RF := Lib.hid OS.rd
  have cf := setCell_self ccw (.slice (some ⟨g1, 0, none⟩) rs.length cap1)
  have BF := Lib.hid ((B1.out.trans (HB1.out.mono (by omega))).setCell (p := ⟨w.heap.size, 0, none⟩) (by simp only; omega) (.slice (some ⟨g1, 0, none⟩) rs.length cap1))
  clear OS
  generalize w1.setCell ⟨w.heap.size, 0, none⟩ (.slice (some ⟨g1, 0, none⟩) rs.length cap1) = WF at *
  refine bodyPost_ret (by simp [results, Tryz.results53, go_sem, cf]; try rfl) rfl ?_
  exact ⟨_, rfl, RF.out, BF.out⟩
def pwW : Nat → Nat | 0 => nrm .f32 1065353216 | j + 1 => fop .mul .f32 (pwW j) (nrm .f32 1073741824)
theorem pw3 : pwW 3 = nrm .f32 1090519040 := by decide +kernel
set_option maxRecDepth 100000 in
set_option maxHeartbeats 8000000 in
theorem radii_spec (v : Value) (rs : List C2) (n : Nat) (tm : Int) (HST : RowKit.Hid (tm = 3)) (w : World) (hv : RdV w v (cx rs)) (hn : rs.length = n + 1) (h1 : 1 ≤ n) (h2 : n ≤ 4) (HR : RowKit.Hid (RadOk (rs.map nc) n)) :
    Calls Tryz.prog 15 #[.agg #[v], .int .i64 tm] w (RetNL (radF (rs.map nc) n) w) := by
  obtain ⟨ao, acap, rfl, _⟩ := hv.shape
  rw [cx_length, hn] at hv ⊢
  have HN := Lib.hid hn
  have HV := Lib.hid hv
  have ROT := Lib.hid (show rootedF (rs.map nc) = true from (HR.out.val 0 (by omega)).1)
  have i1 : inB 0 tm 6 = true := by rw [HST.out]; decide
  clear hn hv
  go_enter Tryz.func15, Tryz.ntmps15
  go_wp2_with fail
  have b1 : Below w.heap.size w (w.alloc (.cells #[(.slice ao (n + 1) acap)] 28)) := (Below.refl _ _).alloc (Nat.le_refl _) _
  have ca1 : (w.alloc (.cells #[(.slice ao (n + 1) acap)] 28)).cell? ⟨w.heap.size, 0, none⟩ = some (.slice ao (n + 1) acap) := World.cell?_alloc_new w #[(.slice ao (n + 1) acap)] 28 0
  have z1 : (w.alloc (.cells #[(.slice ao (n + 1) acap)] 28)).heap.size = w.heap.size + 1 := by simp
  generalize (w.alloc (.cells #[(.slice ao (n + 1) acap)] 28)) = W1 at *
  have HV1 := Lib.hid (HV.out.below b1)
  have B1 := Lib.hid b1
  clear b1 HV
  (go_at_call 35; ((with_reducible refine (rooted_spec _ _ rs _ ca1 HV1.out (by have := HN.out; omega) (by have := HN.out; omega)).mono ?_); rw [ROT.out]; rintro e W2' ⟨m2, rfl, rfl⟩))
  have hb2 : Below W1.heap.size W1 (W1.drewN m2) := below_drewN (Below.refl _ _) _
  generalize W1.drewN m2 = W2 at *
  have s2 := hb2.size
  have ca2 := (hb2.cell (p := ⟨w.heap.size, 0, none⟩) (by simp only; omega)).trans ca1
  have HV2 := Lib.hid (HV1.out.below hb2)
  have B2 := Lib.hid (B1.out.trans (hb2.mono (by omega)))
  clear hb2 ca1 HV1 B1
  go_wp2_with (go_at_call 52; ((with_reducible refine (in_spec _ _ _ _).mono ?_); rw [i1]; rintro e w8 ⟨rfl, rfl⟩))
  (go_at_call 53; ((with_reducible refine (own_spec _ _ rs _ ca2 HV2.out (by have := HN.out; omega) (by have := HN.out; omega)).mono ?_); rintro e WO ⟨vo, rfl, hro, hbo⟩))
  have so := hbo.size
  obtain ⟨bo, bcap, rfl, _⟩ := hro.shape
  rw [cx_length, HN.out] at hro ⊢
  have HVO := Lib.hid hro
  have BO := Lib.hid (B2.out.trans (hbo.mono (by omega)))
  clear hro hbo HV2 B2 ca2
  go_wp2_with fail
  have b3 : Below WO.heap.size WO (WO.alloc (.cells #[.slice bo (n + 1) bcap] 28)) := (Below.refl _ _).alloc (Nat.le_refl _) _
  have c6 : (WO.alloc (.cells #[.slice bo (n + 1) bcap] 28)).cell? ⟨WO.heap.size, 0, none⟩ = some (.slice bo (n + 1) bcap) := World.cell?_alloc_new WO #[.slice bo (n + 1) bcap] 28 0
  have f6 : (WO.alloc (.cells #[.slice bo (n + 1) bcap] 28)).frozen? ⟨WO.heap.size, 0, none⟩ = false := by go_simp; try rfl
  have z3 : (WO.alloc (.cells #[.slice bo (n + 1) bcap] 28)).heap.size = WO.heap.size + 1 := by simp
  obtain ⟨g6, hg6⟩ : ∃ g6, WO.heap.size = g6 := ⟨_, rfl⟩
  rw [hg6] at c6 f6
  (try rw [hg6])
  generalize (WO.alloc (.cells #[.slice bo (n + 1) bcap] 28)) = W3 at *
  have HV3 := Lib.hid (HVO.out.below b3)
  have B3 := Lib.hid (BO.out.trans (b3.mono (by omega)))
  have g60 : w.heap.size < g6 := by omega
  have g63 : g6 < W3.heap.size := by omega
  have C6 := Lib.hid c6
  have F6 := Lib.hid f6
  clear b3 HVO BO z3 hg6 c6 f6 s2 z1 so
  go_loopw [7, 8] (fun pv cv wr => ∃ (j pw : Nat) (vq : Value) (qs : List C2), j ≤ 3 ∧ cv = .int .i64 (j : Int) ∧ pv = .float .f32 pw ∧ nrm .f32 pw = pwW j ∧ wr.cell? ⟨g6, 0, none⟩ = some vq ∧ wr.frozen? ⟨g6, 0, none⟩ = false ∧ RdV wr vq (cx qs) ∧ qs.map nc = radI (rs.map nc) j ∧ Below g6 W3 wr) (fun _ cv _ => 3 - (intOf cv).toNat)
  case atStart => exact ⟨0, 1065353216, _, rs, by omega, rfl, rfl, rfl, C6.out, F6.out, HV3.out, rfl, Below.refl _ _⟩
  case round =>
    obtain ⟨j, pw, vq, qs, hj, rfl, rfl, hpw, hcq, hfq, hrd, hqs, hbel⟩ := hrel
    have hsz := hbel.size
    have HPW := Lib.hid hpw
    clear hpw
    have HQS := Lib.hid hqs
    have HBEL := Lib.hid hbel
    have HFQ := Lib.hid hfq
    have ql : qs.length = n + 1 := by have := congrArg List.length hqs; rw [List.length_map] at this; exact this.trans (HR.out.len j (by omega))
    obtain ⟨qo, qcap, rfl, _⟩ := hrd.shape
    rw [cx_length, ql] at hrd hcq
    have HRD := Lib.hid hrd
    have HQL := Lib.hid ql
    have HCQ := Lib.hid hcq
    clear hqs hbel hfq hrd ql
    by_cases hlt : j < 3
    · obtain ⟨SF, SP, SL⟩ := HR.out.sq j hlt
      have RO := (HR.out.val j (by omega)).1
      have jK : (j : Int) < tm := by have := HST.out; omega
      have HSQ := Lib.hid (show Calls Tryz.prog 36 #[.pointer (some ⟨g6, 0, none⟩)] wr (RetP (squareF (radI (rs.map nc) j), true) wr.heap.size wr) from sq_spec g6 (.slice qo (n + 1) qcap) qs n wr hcq HRD.out HQL.out h1 (by omega) (Lib.hid (by rw [HQS.out]; exact SF)) (squareF (radI (rs.map nc) j)) (Lib.hid (by rw [HQS.out]; exact SP)) SL)
      have HSL := Lib.hid SL
      clear SF SP SL RO
      go_wp2_with fail
      (go_at_call 36; ((with_reducible refine (HSQ.out).mono ?_); rintro e w2 ⟨vs, ss, rfl, hss, hos, hb2⟩))
      have z2 := hb2.size
      have ssl : ss.length = n + 1 := by have := congrArg List.length hss; rw [List.length_map] at this; exact this.trans HSL.out
      obtain ⟨so, scap, rfl, _⟩ := hos.rd.shape
      rw [cx_length, ssl] at hos ⊢
      have HSS := Lib.hid hss
      have HSSL := Lib.hid ssl
      have c62 := (hb2.cell (p := ⟨g6, 0, none⟩) (by simp only; omega)).trans hcq
      have f62 : w2.frozen? ⟨g6, 0, none⟩ = false := by rw [(bcell hb2).2 _ _ (by omega)]; exact HFQ.out
      have HB2 := Lib.hid (HBEL.out.trans (hb2.mono (by omega)))
      have HOS := Lib.hid hos.rd
      clear hss ssl hos hb2 HSQ hcq
      go_upto_region 11 with fail
      have b3 : Below w2.heap.size w2 (w2.alloc (.cells #[.slice so (n + 1) scap] 28)) := (Below.refl _ _).alloc (Nat.le_refl _) _
      have c7 : (w2.alloc (.cells #[.slice so (n + 1) scap] 28)).cell? ⟨w2.heap.size, 0, none⟩ = some (.slice so (n + 1) scap) := World.cell?_alloc_new w2 #[.slice so (n + 1) scap] 28 0
      have z3 : (w2.alloc (.cells #[.slice so (n + 1) scap] 28)).heap.size = w2.heap.size + 1 := by simp
      obtain ⟨g7, hg7⟩ : ∃ g7, w2.heap.size = g7 := ⟨_, rfl⟩
      rw [hg7] at c7
      (try rw [hg7])
      generalize (w2.alloc (.cells #[.slice so (n + 1) scap] 28)) = w3 at *
      have c63 := (b3.cell (p := ⟨g6, 0, none⟩) (by simp only; omega)).trans c62
      have F63 := Lib.hid (show w3.frozen? ⟨g6, 0, none⟩ = false by rw [(bcell b3).2 _ _ (by omega)]; exact f62)
      have HB3 := Lib.hid (HB2.out.trans (b3.mono (by omega)))
      have HOS3 := Lib.hid (HOS.out.below b3)
      have C63 := Lib.hid c63
      have l7 : g7 < w3.heap.size := by omega
      have l67 : g6 < g7 := by omega
      clear b3 c62 f62 HB2 HOS hg7 c63 HRD HBEL HFQ HCQ
      rcases HOS3.out.openC with ⟨rfl, _⟩ | ⟨sb, soff, scap2, hve, hsb, hscp, hsc⟩
      · have := HSSL.out; simp at this
      simp only [Value.slice.injEq] at hve
      obtain ⟨rfl, hxx, rfl⟩ := hve
      clear hxx
      have HC := Lib.hid (show ∀ i, i < n + 1 → w3.cell? ⟨sb, soff + i, none⟩ = some (.complex .f32 (ss.getD i (0, 0)).1 (ss.getD i (0, 0)).2) from fun i hi => by
        rw [hsc i (by rw [HSSL.out]; exact hi)]; simp [List.getD, show i < ss.length by rw [HSSL.out]; exact hi])
      have HGS := Lib.hid (fun i => show nc (ss.getD i (0, 0)) = (squareF (radI (rs.map nc) j)).getD i (0, 0) by rw [← HSS.out, getD_nc])
      have FT := Lib.hid (HR.out.fit j hlt)
      clear hsc hscp
      go_wp2_with fail
      go_loopw [11, 43] (fun mv kv wx => ∃ (k : Nat), k ≤ n + 1 ∧ kv = .int .i64 (k : Int) ∧ mv = .float .f32 (mostF (squareF (radI (rs.map nc) j)) k) ∧ Below w3.heap.size w3 wx) (fun _ kv _ => n + 1 - (intOf kv).toNat)
      case atStart => exact ⟨0, Nat.zero_le _, rfl, rfl, Below.refl _ _⟩
      case round =>
        obtain ⟨k, hk, rfl, rfl, hbx⟩ := hrel
        obtain ⟨wx, hwx⟩ : ∃ wx, wx = wr := ⟨wr, rfl⟩
        subst hwx
        have HBX := Lib.hid hbx
        have sx := hbx.size
        have c7x := (hbx.cell (p := ⟨g7, 0, none⟩) (by simp only; omega)).trans c7
        by_cases hkt : k < n + 1
        · have c1 := (hbx.cell (p := ⟨sb, soff + k, none⟩) (by simp only; omega)).trans (HC.out k hkt)
          obtain ⟨ft1, fa⟩ := FT.out k hkt
          rw [← HGS.out k] at ft1 fa
          have HMK := Lib.hid (show maxW (mostF (squareF (radI (rs.map nc) j)) k) (longF (nc (ss.getD k (0, 0)))) = mostF (squareF (radI (rs.map nc) j)) (k + 1) by rw [HGS.out k]; rfl)
          have fm := mostF_fin (S := squareF (radI (rs.map nc) j)) (m := n + 1) (fun k hk => (FT.out k hk).2) (Nat.le_of_lt hkt)
          have FT1 := Lib.hid ft1
          have j0 : (0 : Int) ≤ (k : Int) := by omega
          have j1 : (k : Int) < ((n + 1 : Nat) : Int) := by omega
          have j2 : (k : Int) < (n : Int) + 1 := by omega
          generalize ss.getD k (0, 0) = X at *
          obtain ⟨x1, x2⟩ := X
          have FM := Lib.hid fm
          have FA := Lib.hid fa
          clear ft1 fa fm hbx
          go_wp2_with fail
          (go_at_call 45; ((with_reducible refine (long_spec (x1, x2) FT1 _).mono ?_); rintro e w5 ⟨a, ma, rfl, ha, rfl⟩))
          obtain rfl : a = longF (nc (x1, x2)) := nrm_fin ha FA.out
          have fm := FM.out
          have fa := FA.out
          have RM := fun (P : Program) ts t w' => run_maxf (P := P) fm fa ts t w'
          clear ha
          go_wp2_with fail
          go_roundw
          case rel => exact ⟨k + 1, by omega, by go_num, by rw [← HMK.out], below_drewN HBX.out _⟩
          case measure => simp [intOf]; omega
        · obtain rfl : k = n + 1 := by omega
          obtain ⟨mw, hmw⟩ : ∃ mw, mostF (squareF (radI (rs.map nc) j)) (n + 1) = mw := ⟨_, rfl⟩
          have HDV := Lib.hid (show radI (rs.map nc) (j + 1) = divF (squareF (radI (rs.map nc) j)) mw by rw [← hmw, ← HSL.out]; rfl)
          have HNM := Lib.hid (show nrm .f32 mw = mw by rw [← hmw]; exact fN_nrm (mostF_fin (S := squareF (radI (rs.map nc) j)) (m := n + 1) (fun k hk => (FT.out k hk).2) (Nat.le_refl _)))
          have HMO := Lib.hid (show aboveF mw = true by rw [← hmw]; exact HR.out.most j hlt)
          rw [hmw]
          have C6X := Lib.hid ((hbx.cell (p := ⟨g6, 0, none⟩) (by simp only; omega)).trans C63.out)
          have F6X := Lib.hid (show wx.frozen? ⟨g6, 0, none⟩ = false by rw [hbx.frozen (p := ⟨g6, 0, none⟩) (by simp only; omega)]; exact F63.out)
          have HCX := Lib.hid (show ∀ i, i < n + 1 → wx.cell? ⟨sb, soff + i, none⟩ = some (.complex .f32 (ss.getD i (0, 0)).1 (ss.getD i (0, 0)).2) from fun i hi => (hbx.cell (p := ⟨sb, soff + i, none⟩) (by simp only; omega)).trans (HC.out i hi))
          have BXX := Lib.hid (HB3.out.trans (hbx.mono (by omega)))
          have sbx : sb < wx.heap.size := by omega
          have l7x : g7 < wx.heap.size := by omega
          have hL : ¬ (((n + 1 : Nat) : Int) < (n : Int) + 1) := by omega
          clear hmw hbx HC HB3 C63 F63 hk
          go_wp2_with fail
          go_loopw [13, 59] (fun ov kv wy => ∃ (k : Nat) (ts : List C2), k ≤ n + 1 ∧ kv = .int .i64 (k : Int) ∧ RowV 32 wy wx.heap.size ov (cx ts) ∧ ts.map nc = (divF (squareF (radI (rs.map nc) j)) mw).take k ∧ Below wx.heap.size wx wy) (fun _ kv _ => n + 1 - (intOf kv).toNat)
          case atStart => exact ⟨0, [], Nat.zero_le _, rfl, row_nil (Nat.le_refl _) _, rfl, by (repeat' (first | (with_reducible exact Below.refl _ _) | (with_reducible assumption) | (with_reducible refine Below.alloc ?_ ?_ _) | (with_reducible refine Below.setCell ?_ ?_ _) | (with_reducible refine Below.drew ?_) | (with_reducible refine Below.via (by assumption) ?_ ?_) | go_size))⟩
          case round =>
            obtain ⟨k, ts, hk, rfl, hrow, hts, hby⟩ := hrel
            obtain ⟨wy, hwy⟩ : ∃ wy, wy = wr := ⟨wr, rfl⟩
            subst hwy
            have HBY := Lib.hid hby
            have sy := hby.size
            have HRW := Lib.hid hrow
            have HTS := Lib.hid hts
            have tl : ts.length = k := by
              have := congrArg List.length hts
              rw [List.length_map, List.length_take, divF_len, HSL.out] at this
              omega
            by_cases hkt : k < n + 1
            · have c1 := (hby.cell (p := ⟨sb, soff + k, none⟩) (by simp only; omega)).trans (HCX.out k hkt)
              have c7y := (hby.cell (p := ⟨g7, 0, none⟩) (by simp only; omega)).trans c7x
              have l7y : g7 < wy.heap.size := by omega
              have HLN := Lib.hid (show (cx ts).length ≤ 1099511627776 by rw [cx_length]; omega)
              have HX := Lib.hid (show (divF (squareF (radI (rs.map nc) j)) mw).take (k + 1) = (divF (squareF (radI (rs.map nc) j)) mw).take k ++ [(fop .quo .f32 (nc (ss.getD k (0, 0))).1 mw, fop .quo .f32 (nc (ss.getD k (0, 0))).2 mw)] by
                rw [HGS.out k]; exact div_succ _ _ _ (by rw [HSL.out]; exact hkt))
              have j0 : (0 : Int) ≤ (k : Int) := by omega
              have j1 : (k : Int) < ((n + 1 : Nat) : Int) := by omega
              have j2 : (k : Int) < (n : Int) + 1 := by omega
              generalize ss.getD k (0, 0) = X at *
              obtain ⟨x1, x2⟩ := X
              clear hrow hts hby tl
              go_wp2_with (first | (with_reducible refine wpList_fop rfl .quo _ _ _ _ rfl rfl .f32 x1 _ rfl rfl ?_; intro d1 m1 hd1) | (with_reducible refine wpList_fop rfl .quo _ _ _ _ rfl rfl .f32 x2 _ rfl rfl ?_; intro d2 m2 hd2) | (at_builtin; go_must (refine wpList_pushV (.complex .f32 0 0) 8 HRW.out infoC rfl rfl (by decide) rfl _ _ rfl Tryz.underlying25 HLN.out (by omega) rfl rfl rfl rfl rfl rfl ?_); intro v1 w1 hr1 hb1 hgw ho1))
              have HD := Lib.hid (show nc (d1, d2) = (fop .quo .f32 (nc (x1, x2)).1 mw, fop .quo .f32 (nc (x1, x2)).2 mw) by rw [HNM.out] at hd1 hd2; exact Prod.ext hd1 hd2)
              go_roundw
              case rel => exact ⟨k + 1, ts ++ [(d1, d2)], by omega, by go_num, by rw [← cx_push]; exact hr1, by rw [List.map_append, HTS.out, HX.out, List.map_cons, List.map_nil, HD.out], HBY.out.trans hb1⟩
              case measure => simp [intOf]; omega
            · obtain rfl : k = n + 1 := by omega
              have HTQ := Lib.hid (show ts.map nc = radI (rs.map nc) (j + 1) by rw [hts, HDV.out, List.take_of_length_le (by rw [divF_len, HSL.out]; omega)])
              have c6y := (hby.cell (p := ⟨g6, 0, none⟩) (by simp only; omega)).trans C6X.out
              have f6y : wy.frozen? ⟨g6, 0, none⟩ = false := by rw [hby.frozen (p := ⟨g6, 0, none⟩) (by simp only; omega)]; exact F6X.out
              have HBZ := Lib.hid (BXX.out.trans (hby.mono (by omega)))
              obtain ⟨to', tcap, rfl, _⟩ := hrow.rd.shape
              rw [cx_length, tl] at hrow ⊢
              have HOW := Lib.hid hrow.own
              have VAL := Lib.hid (HR.out.val (j + 1) (by omega)).2
              have HTL := Lib.hid tl
              have g6y : g6 < wy.heap.size := by omega
              clear hrow hts hby tl C6X F6X HRW HTS HBY
              go_upto_region 25 with fail
              have OS := own_set (j := 0) HOW.out (show g6 < wx.heap.size by omega) (.slice to' (n + 1) tcap)
              have cs6 := setCell_self c6y (.slice to' (n + 1) tcap)
              have fs6 : (wy.setCell ⟨g6, 0, none⟩ (.slice to' (n + 1) tcap)).frozen? ⟨g6, 0, none⟩ = false := by go_simp; try exact f6y
              have zs6 : (wy.setCell ⟨g6, 0, none⟩ (.slice to' (n + 1) tcap)).heap.size = wy.heap.size := by simp
              have BS := HBZ.out.setCell (p := ⟨g6, 0, none⟩) (by simp) (.slice to' (n + 1) tcap)
              generalize (wy.setCell ⟨g6, 0, none⟩ (.slice to' (n + 1) tcap)) = wz at *
              have HRZ := Lib.hid OS.rd
              have HBS := Lib.hid BS
              have HFS := Lib.hid fs6
              clear OS BS fs6 c6y f6y HOW HBZ
              go_wp2_with fail
              (go_at_call 37; ((with_reducible refine (is_spec g6 _ ts _ cs6 HRZ.out (by have := HTL.out; omega) (by have := HTL.out; omega)).mono ?_); rw [HTQ.out, VAL.out]; rintro e wv' ⟨mv1, rfl, rfl⟩))
              go_wp2_with (first | (go_at_call 54; ((with_reducible refine (above_spec mw _).mono ?_); rw [HNM.out, HMO.out]; rintro e wv'' ⟨mv2, rfl, rfl⟩)) | (with_reducible refine wpList_fop rfl .mul _ _ _ _ rfl rfl .f32 _ _ rfl rfl ?_; intro pw2 mp2 hp2))
              obtain ⟨mt, hmt⟩ : ∃ mt, mt = mv1 + mv2 + mp2 := ⟨_, rfl⟩
              have hbv : Below wz.heap.size wz (wz.drewN mt) := below_drewN (Below.refl _ _) _
              (try rw [← hmt])
              clear hmt
              generalize (wz.drewN mt) = wv at *
              have cv6 := (hbv.cell (p := ⟨g6, 0, none⟩) (by simp only; omega)).trans cs6
              have fv6 : wv.frozen? ⟨g6, 0, none⟩ = false := by rw [(bcell hbv).2 _ _ (by omega)]; exact HFS.out
              have HRV := Lib.hid (HRZ.out.below hbv)
              have HBV := Lib.hid (HBS.out.trans (hbv.mono (by omega)))
              have HFV := Lib.hid fv6
              have HCV := Lib.hid cv6
              clear hbv fv6 cv6 cs6
              have HP2 := Lib.hid (show nrm .f32 pw2 = pwW (j + 1) by rw [hp2, HPW.out]; rfl)
              go_roundw
              case rel => exact ⟨j + 1, pw2, _, ts, by omega, by go_num, rfl, HP2.out, HCV.out, HFV.out, HRV.out, HTQ.out, HBV.out⟩
              case measure => simp [intOf]; omega
    · obtain rfl : j = 3 := by omega
      have jK : ¬ ((3 : Int) < tm) := by have := HST.out; omega
      have HP8 := Lib.hid (show nrm .f32 pw = nrm .f32 1090519040 by rw [HPW.out, pw3])
      rcases HRD.out.openC with ⟨rfl, _⟩ | ⟨qb, qoff, qcap2, hve, hqb, hqcp, hqc⟩
      · have := HQL.out; simp at this
      simp only [Value.slice.injEq] at hve
      obtain ⟨rfl, hxx, rfl⟩ := hve
      clear hxx
      have HC := Lib.hid (show ∀ i, i < n + 1 → wr.cell? ⟨qb, qoff + i, none⟩ = some (.complex .f32 (qs.getD i (0, 0)).1 (qs.getD i (0, 0)).2) from fun i hi => by
        rw [hqc i (by rw [HQL.out]; exact hi)]; simp [List.getD, show i < qs.length by rw [HQL.out]; exact hi])
      have HGQ := Lib.hid (fun i => show nc (qs.getD i (0, 0)) = (radI (rs.map nc) 3).getD i (0, 0) by rw [← HQS.out, getD_nc])
      obtain ⟨wq, hwq⟩ : ∃ wq, wq = wr := ⟨wr, rfl⟩
      subst hwq
      have g6q : g6 < wq.heap.size := by omega
      have FT := Lib.hid HR.out.lng
      have BXW := Lib.hid (B3.out.trans (HBEL.out.mono (by omega)))
      have swq : w.heap.size ≤ wq.heap.size := by omega
      clear hqc hqcp
      go_wp2_with fail
      have HCQ2 := Lib.hid hcq
      clear hcq
      go_loopw [17, 18] (fun ov kv wz => ∃ (k : Nat) (us : List Nat), k ≤ n ∧ kv = .int .i64 (k : Int) ∧ RowV 33 wz wq.heap.size ov (fl us) ∧ us.map (nrm .f32) = (List.range k).map (outF (rs.map nc) n) ∧ (∀ i, n - k ≤ i → i ≤ n → 0 < k → aboveF (lenF (rs.map nc) i) = true) ∧ Below wq.heap.size wq wz) (fun _ kv _ => n - (intOf kv).toNat)
      case atStart => exact ⟨0, [], Nat.zero_le _, rfl, row_nil (Nat.le_refl _) _, by simp, fun i _ _ h => absurd h (by omega), (Below.refl _ _).alloc (Nat.le_refl _) _⟩
      case round =>
        obtain ⟨k, us, hk, rfl, hrow, hus, hab, hbz⟩ := hrel
        obtain ⟨wz, hwz⟩ : ∃ wz, wz = wr := ⟨wr, rfl⟩
        subst hwz
        have HBZ := Lib.hid hbz
        have sz := hbz.size
        have HRW := Lib.hid hrow
        have HUS := Lib.hid hus
        have HAB := Lib.hid hab
        have tl : us.length = k := by have := congrArg List.length hus; simpa using this
        by_cases hkt : k < n
        · have HLN := Lib.hid (show (fl us).length ≤ 1099511627776 by rw [fl_length]; omega)
          have c6z := (hbz.cell (p := ⟨g6, 0, none⟩) (by simp only; omega)).trans HCQ2.out
          obtain ⟨nm, hnm⟩ : ∃ nm : Nat, n - 1 = nm := ⟨_, rfl⟩
          obtain ⟨i1', hi1⟩ : ∃ i1 : Nat, nm - k = i1 := ⟨_, rfl⟩
          obtain ⟨i2, hi2⟩ : ∃ i2 : Nat, n - k = i2 := ⟨_, rfl⟩
          have q1 : IntKind.i64.wrap ((n : Int) - 1) = (nm : Int) := by rw [IntWalk.i64_in _ ⟨by omega, by omega⟩]; omega
          have q2 : IntKind.i64.wrap ((nm : Int) - (k : Int)) = (i1' : Int) := by rw [IntWalk.i64_in _ ⟨by omega, by omega⟩]; omega
          have q3 : IntKind.i64.wrap ((n : Int) - (k : Int)) = (i2 : Int) := by rw [IntWalk.i64_in _ ⟨by omega, by omega⟩]; omega
          have e1 : i1' < n + 1 := by omega
          have e2 : i2 < n + 1 := by omega
          have c1 := (hbz.cell (p := ⟨qb, qoff + i1', none⟩) (by simp only; omega)).trans (HC.out i1' e1)
          have c2 := (hbz.cell (p := ⟨qb, qoff + i2, none⟩) (by simp only; omega)).trans (HC.out i2 e2)
          have HAR := Lib.hid (show argF (rs.map nc) n k = fop .quo .f32 (fop .sub .f32 (logG (lenF (rs.map nc) i1')) (logG (lenF (rs.map nc) i2))) (nrm .f32 1090519040) by unfold argF; rw [hnm, hi1, hi2])
          have HLG := Lib.hid HR.out.log
          have HOU := Lib.hid (HR.out.out k hkt)
          rw [hnm, hi1, hi2] at HOU
          have f1 := FT.out i1' e1
          have f2 := FT.out i2 e2
          rw [← HGQ.out i1'] at f1
          rw [← HGQ.out i2] at f2
          have G1 := Lib.hid (show longF (nc (qs.getD i1' (0, 0))) = lenF (rs.map nc) i1' by rw [HGQ.out i1']; rfl)
          have G2 := Lib.hid (show longF (nc (qs.getD i2 (0, 0))) = lenF (rs.map nc) i2 by rw [HGQ.out i2]; rfl)
          generalize qs.getD i1' (0, 0) = X1 at *
          generalize qs.getD i2 (0, 0) = X2 at *
          obtain ⟨x11, x12⟩ := X1
          obtain ⟨x21, x22⟩ := X2
          have F1 := Lib.hid f1
          have F2 := Lib.hid f2
          have HAN := Lib.hid (show aboveF (lenF (rs.map nc) i1') = true → aboveF (lenF (rs.map nc) i2) = true → ∀ i, n - (k + 1) ≤ i → i ≤ n → 0 < k + 1 → aboveF (lenF (rs.map nc) i) = true from fun a1 a2 i h1 h2 _ => by
            by_cases hi : i = i1'
            · subst hi; exact a1
            · by_cases hj : i = i2
              · subst hj; exact a2
              · exact hab i (by omega) h2 (by omega))
          have HPN := Lib.hid (show (aboveF (lenF (rs.map nc) i1') = false ∨ aboveF (lenF (rs.map nc) i2) = false) → radF (rs.map nc) n = ([], false) from fun h => by
            have hp : ¬ posF (rs.map nc) n = true := fun hp => by
              rcases h with h | h
              · rw [posF_get hp e1] at h; cases h
              · rw [posF_get hp e2] at h; cases h
            unfold radF; rw [if_neg hp])
          have j0 : (0 : Int) ≤ (k : Int) := by omega
          have j1 : (k : Int) < (n : Int) := by omega
          have j2 : (0 : Int) ≤ (i1' : Int) := by omega
          have j3 : (i1' : Int) < (n : Int) + 1 := by omega
          have j4 : (0 : Int) ≤ (i2 : Int) := by omega
          have j5 : (i2 : Int) < (n : Int) + 1 := by omega
          have j6 : (i1' : Int) < ((n + 1 : Nat) : Int) := by omega
          have j7 : (i2 : Int) < ((n + 1 : Nat) : Int) := by omega
          clear hrow hus hbz hab tl f1 f2 hnm hi1 hi2 hkt
          go_upto_region 35 with (first
            | (go_at_call 45; ((with_reducible refine (long_spec (x11, x12) F1 _).mono ?_); rintro e w5 ⟨a, ma, rfl, ha, rfl⟩))
            | (go_at_call 45; ((with_reducible refine (long_spec (x21, x22) F2 _).mono ?_); rintro e w5 ⟨b, mb, rfl, hb, rfl⟩)))
          have HA := Lib.hid (show nrm .f32 a = lenF (rs.map nc) i1' from ha.trans G1.out)
          have HB := Lib.hid (show nrm .f32 b = lenF (rs.map nc) i2 from hb.trans G2.out)
          clear ha hb c1 c2 c6z
          obtain ⟨mt, hmt⟩ : ∃ mt, mt = ma + mb := ⟨_, rfl⟩
          have dz := drewN_below wz mt
          have HBD := Lib.hid (HBZ.out.trans (dz.mono sz))
          have HRD2 := Lib.hid (HRW.out.below dz)
          have HBW2 := Lib.hid (BXW.out.trans ((HBD.out).mono swq))
          have hzz : wq.heap.size ≤ (wz.drewN mt).heap.size := sz
          (try rw [← hmt])
          clear hmt dz
          generalize wz.drewN mt = wd at *
          cases hA1 : aboveF (lenF (rs.map nc) i1')
          · have HF := Lib.hid (HPN.out (.inl hA1))
            go_wp2_with (go_at_call 54; ((with_reducible refine (above_spec a _).mono ?_); rw [HA.out, hA1]; rintro e w' ⟨m1, rfl, rfl⟩))
            go_ret2
            rw [HF.out]
            exact ⟨_, [], rfl, rfl, ⟨none, 0, rfl, ⟨by simp, by simp [maxLen]⟩, .inl rfl⟩, below_drewN HBW2.out _⟩
          · cases hA2 : aboveF (lenF (rs.map nc) i2)
            · have HF := Lib.hid (HPN.out (.inr hA2))
              go_wp2_with (first | (go_at_call 54; ((with_reducible refine (above_spec a _).mono ?_); rw [HA.out, hA1]; rintro e w' ⟨m1, rfl, rfl⟩)) | (go_at_call 54; ((with_reducible refine (above_spec b _).mono ?_); rw [HB.out, hA2]; rintro e w' ⟨m1, rfl, rfl⟩)))
              go_ret2
              rw [HF.out]
              exact ⟨_, [], rfl, rfl, ⟨none, 0, rfl, ⟨by simp, by simp [maxLen]⟩, .inl rfl⟩, below_drewN HBW2.out _⟩
            · have L1 := HLG.out i1' e1 hA1
              have L2 := HLG.out i2 e2 hA2
              rw [← HA.out] at L1
              rw [← HB.out] at L2
              have HL1 := Lib.hid (fun w1 => logN_spec a (Jf (nrm .f32 a)) w1 (Lib.hid L1))
              have HL2 := Lib.hid (fun w1 => logN_spec b (Jf (nrm .f32 b)) w1 (Lib.hid L2))
              have HEO := Lib.hid (HOU.out hA1 hA2).1
              have HN2 := Lib.hid (HAN.out hA1 hA2)
              clear L1 L2
              go_upto_region 37 with (first | (go_at_call 54; ((with_reducible refine (above_spec a _).mono ?_); rw [HA.out, hA1]; rintro e w' ⟨m1, rfl, rfl⟩)) | (go_at_call 54; ((with_reducible refine (above_spec b _).mono ?_); rw [HB.out, hA2]; rintro e w' ⟨m2, rfl, rfl⟩)))
              obtain ⟨mt, hmt⟩ : ∃ mt, mt = m1 + m2 := ⟨_, rfl⟩
              have dz := drewN_below wd mt
              have HBD2 := Lib.hid (HBD.out.trans (dz.mono hzz))
              have HRD3 := Lib.hid (HRD2.out.below dz)
              have hz3 : wq.heap.size ≤ (wd.drewN mt).heap.size := hzz
              (try rw [← hmt])
              clear hmt dz hA1 hA2
              generalize wd.drewN mt = we at *
              go_wp2_with (first
                | (go_at_call 56; ((with_reducible refine (HL1.out _).mono ?_); rintro e w5 ⟨b1, n1, rfl, hb1', rfl⟩; have HM1 := Lib.hid hb1'; clear hb1'))
                | (go_at_call 56; ((with_reducible refine (HL2.out _).mono ?_); rintro e w5 ⟨b2, n2, rfl, hb2', rfl⟩; have HM2 := Lib.hid hb2'; clear hb2'))
                | ((with_reducible refine wpList_fop rfl .sub _ _ _ _ rfl rfl .f32 _ _ rfl rfl ?_); intro d1 md1 hd1; have HD1 := Lib.hid hd1; clear hd1)
                | ((with_reducible refine wpList_fop rfl .quo _ _ _ _ rfl rfl .f32 _ _ rfl rfl ?_); intro d2 md2 hd2; have HD2 := Lib.hid (show nrm .f32 d2 = argF (rs.map nc) n k by rw [hd2, HD1.out, HM1.out, HM2.out, HP8.out, HAR.out, HA.out, HB.out]; rfl); clear hd2)
                | (go_at_call 55; ((with_reducible refine (expN_spec d2 _ (Lib.hid (by rw [HD2.out]; exact HEO.out))).mono ?_); rintro e w5 ⟨a3, n3, rfl, ha3, rfl⟩; have HM3 := Lib.hid (show nrm .f32 a3 = outF (rs.map nc) n k by rw [ha3, HD2.out]; rfl); clear ha3))
                | (at_builtin; go_must (refine wpList_pushV (.float .f32 0) 4 HRD3.out infoF rfl rfl (by decide) rfl _ _ rfl Tryz.underlying39 HLN.out (by omega) rfl rfl rfl rfl rfl rfl ?_); intro v1 w1 hr1 hb1 hgw ho1))
              go_roundw
              case rel => exact ⟨k + 1, us ++ [a3], by omega, by go_num, by rw [← fl_push]; exact hr1, by rw [List.map_append, HUS.out, List.range_succ, List.map_append, List.map_cons, List.map_nil, List.map_cons, List.map_nil, HM3.out], HN2.out, HBD2.out.trans hb1⟩
              case measure => simp [intOf]; omega
        · obtain rfl : k = n := by omega
          have hpos : posF (rs.map nc) k = true := posF_of fun i hi => hab i (by omega) (by omega) (by omega)
          have HF := Lib.hid (show radF (rs.map nc) k = ((List.range k).map (outF (rs.map nc) k), true) by unfold radF; rw [hpos]; rfl)
          have HFA := Lib.hid (show allFin us = true from (allFin_true_iff us).2 fun i hi => by
            have e : nrm .f32 us[i] = outF (rs.map nc) k i := by
              have := getD_nrm us i
              rw [hus] at this
              have hik : i < k := by omega
              simp [List.getD, hik, hi] at this
              exact this.symm
            rw [e]
            exact (HR.out.out i (by omega) (posF_get hpos (by omega)) (posF_get hpos (by omega))).2)
          have HBW2 := Lib.hid (BXW.out.trans (hbz.mono swq))
          obtain ⟨uo, ucap, rfl, _⟩ := hrow.rd.shape
          rw [fl_length, tl] at hrow ⊢
          have HRU := Lib.hid hrow.rd
          clear hab hrow hpos hbz HRW
          go_wp2_with (go_at_call 57; ((with_reducible refine (finList_spec _ us _ HRU.out (by omega)).mono ?_); rw [HFA.out]; rintro e w' ⟨m1, rfl, rfl⟩))
          go_ret2
          rw [HF.out]
          exact ⟨_, us, rfl, hus, HRU.out.below (drewN_below _ _), below_drewN HBW2.out _⟩
end Go.Proofs.YtfnhddaofllniaaGreat
