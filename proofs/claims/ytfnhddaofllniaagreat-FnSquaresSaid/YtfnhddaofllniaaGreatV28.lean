/- Radii of roots, of the program. Conditions: squared three times; the polynomials between are told. -/
import Derived.Test.YtfnhddaofllniaaGreatV25
import Derived.Test.YtfnhddaofllniaaGreatV27
import Derived.Deep.RegionHeld3
import Derived.Deep.DeepCutAuto
namespace Go.Proofs.YtfnhddaofllniaaGreat
open Go Go.RowKit
set_option linter.unusedSimpArgs false
set_option linter.unusedVariables false

def HG38 (f : FuncId) (args : Array Value) (u : Value) : Prop := ∃ x a, args = #[.float .f32 x] ∧ u = .float .f32 a ∧ ((f = 50 ∧ nrm .f32 a = logG (nrm .f32 x)) ∨ (f = 49 ∧ nrm .f32 a = expN (nrm .f32 x)))
theorem HG38.log {x : Nat} {u : Value} (h : HG38 50 #[.float .f32 x] u) : ∃ a, u = .float .f32 a ∧ nrm .f32 a = logG (nrm .f32 x) := by
  obtain ⟨y, a, hx, hu, h | h⟩ := h
  · simp at hx; subst hx; exact ⟨a, hu, h.2⟩
  · exact absurd h.1 (by decide)
theorem HG38.exp {x : Nat} {u : Value} (h : HG38 49 #[.float .f32 x] u) : ∃ a, u = .float .f32 a ∧ nrm .f32 a = expN (nrm .f32 x) := by
  obtain ⟨y, a, hx, hu, h | h⟩ := h
  · exact absurd h.1 (by decide)
  · simp at hx; subst hx; exact ⟨a, hu, h.2⟩
set_option maxRecDepth 100000 in
set_option maxHeartbeats 8000000 in
theorem radii_impl (v : Value) (rs : List C2) (n : Nat) (tm : Int) (HST : RowKit.Hid (tm = 3)) (w : World) (hv : RdV w v (cx rs)) (hn : rs.length = n + 1) (h1 : 1 ≤ n) (h2 : n ≤ 4) (HR : RowKit.Hid (RadOk (rs.map nc) n)) :
    Calls Tryz.prog 14 #[.agg #[v], .int .i64 tm] w (RetNL (radF (rs.map nc) n) w) := by
  obtain ⟨ao, acap, rfl, _⟩ := hv.shape
  rw [cx_length, hn] at hv ⊢
  have HN := Lib.hid hn
  have HV := Lib.hid hv
  have ROT := Lib.hid (show rootedF (rs.map nc) = true from (HR.out.val 0 (by omega)).1)
  have i1 : inB 0 tm 6 = true := by rw [HST.out]; decide
  clear hn hv
  go_enter Tryz.func14, Tryz.ntmps14
  go_wp2_with fail
  have b1 : Below w.heap.size w (w.alloc (.cells #[(.slice ao (n + 1) acap)] 28)) := (Below.refl _ _).alloc (Nat.le_refl _) _
  have ca1 : (w.alloc (.cells #[(.slice ao (n + 1) acap)] 28)).cell? ⟨w.heap.size, 0, none⟩ = some (.slice ao (n + 1) acap) := World.cell?_alloc_new w #[(.slice ao (n + 1) acap)] 28 0
  have z1 : (w.alloc (.cells #[(.slice ao (n + 1) acap)] 28)).heap.size = w.heap.size + 1 := by simp
  generalize (w.alloc (.cells #[(.slice ao (n + 1) acap)] 28)) = W1 at *
  have HV1 := Lib.hid (HV.out.below b1)
  have B1 := Lib.hid b1
  clear b1 HV
  (go_at_call 27; ((with_reducible refine (rooted_impl _ rs _ HV1.out (by have := HN.out; omega) (by have := HN.out; omega)).mono ?_); rintro e W2 ⟨rfl, hb2⟩; rw [ROT.out]))
  have s2 := hb2.size
  have ca2 := (hb2.cell (p := ⟨w.heap.size, 0, none⟩) (by simp only; omega)).trans ca1
  have HV2 := Lib.hid (HV1.out.below hb2)
  have B2 := Lib.hid (B1.out.trans (hb2.mono (by omega)))
  clear hb2 ca1 HV1 B1
  go_wp2_with (go_at_call 46; ((with_reducible refine (within_impl _ _ _ _).mono ?_); rintro e w8 ⟨rfl, rfl⟩; rw [i1]))
  have b3 : Below W2.heap.size W2 (W2.alloc (.cells #[(.slice ao (n + 1) acap)] 28)) := (Below.refl _ _).alloc (Nat.le_refl _) _
  have c6 : (W2.alloc (.cells #[(.slice ao (n + 1) acap)] 28)).cell? ⟨W2.heap.size, 0, none⟩ = some (.slice ao (n + 1) acap) := World.cell?_alloc_new W2 #[(.slice ao (n + 1) acap)] 28 0
  have f6 : (W2.alloc (.cells #[(.slice ao (n + 1) acap)] 28)).frozen? ⟨W2.heap.size, 0, none⟩ = false := by go_simp; try rfl
  have z3 : (W2.alloc (.cells #[(.slice ao (n + 1) acap)] 28)).heap.size = W2.heap.size + 1 := by simp
  obtain ⟨g6, hg6⟩ : ∃ g6, W2.heap.size = g6 := ⟨_, rfl⟩
  rw [hg6] at c6 f6
  (try rw [hg6])
  generalize (W2.alloc (.cells #[(.slice ao (n + 1) acap)] 28)) = W3 at *
  have HV3 := Lib.hid (HV2.out.below b3)
  have B3 := Lib.hid (B2.out.trans (b3.mono (by omega)))
  have g60 : w.heap.size < g6 := by omega
  have g63 : g6 < W3.heap.size := by omega
  have C6 := Lib.hid c6
  have F6 := Lib.hid f6
  clear b3 HV2 B2 ca2 z3 hg6 c6 f6 s2 z1
  go_loopw [32] (fun cv wr => ∃ (j : Nat) (vq : Value) (qs : List C2), j ≤ 3 ∧ cv = .int .i64 (j : Int) ∧ wr.cell? ⟨g6, 0, none⟩ = some vq ∧ wr.frozen? ⟨g6, 0, none⟩ = false ∧ RdV wr vq (cx qs) ∧ qs.map nc = radI (rs.map nc) j ∧ Below g6 W3 wr) (fun cv _ => 3 - (intOf cv).toNat)
  case atStart => exact ⟨0, _, rs, by omega, rfl, C6.out, F6.out, HV3.out, rfl, Below.refl _ _⟩
  case round =>
    obtain ⟨j, vq, qs, hj, rfl, hcq, hfq, hrd, hqs, hbel⟩ := hrel
    have hsz := hbel.size
    have HQS := Lib.hid hqs
    have HBEL := Lib.hid hbel
    have HFQ := Lib.hid hfq
    have ql : qs.length = n + 1 := by have := congrArg List.length hqs; rw [List.length_map] at this; exact this.trans (HR.out.len j (by omega))
    obtain ⟨qo, qcap, rfl, _⟩ := hrd.shape
    rw [cx_length, ql] at hrd hcq
    have HRD := Lib.hid hrd
    have HQL := Lib.hid ql
    have HCQ := Lib.hid hcq
    clear hqs hbel hfq hrd ql
    by_cases hlt : j < 3
    · obtain ⟨SF, SP, SL⟩ := HR.out.sq j hlt
      have RO := (HR.out.val j (by omega)).1
      have jK : (j : Int) < tm := by have := HST.out; omega
      have HSQ := Lib.hid (show Calls Tryz.prog 8 #[.agg #[.slice qo (n + 1) qcap]] wr (RetP (squareF (radI (rs.map nc) j), true) wr.heap.size wr) from squared_impl (.slice qo (n + 1) qcap) qs n wr HRD.out HQL.out h1 (by omega) (by rw [HQS.out]; exact RO) (Lib.hid (by rw [HQS.out]; exact SF)) (squareF (radI (rs.map nc) j)) (Lib.hid (by rw [HQS.out]; exact SP)) SL)
      have HSL := Lib.hid SL
      clear SF SP SL RO
      go_wp2_with fail
      (go_at_call 8; ((with_reducible refine (HSQ.out).mono ?_); rintro e w2 ⟨vs, ss, rfl, hss, hos, hb2⟩))
      have z2 := hb2.size
      have ssl : ss.length = n + 1 := by have := congrArg List.length hss; rw [List.length_map] at this; exact this.trans HSL.out
      obtain ⟨so, scap, rfl, _⟩ := hos.rd.shape
      rw [cx_length, ssl] at hos ⊢
      have HSS := Lib.hid hss
      have HSSL := Lib.hid ssl
      have c62 := (hb2.cell (p := ⟨g6, 0, none⟩) (by simp only; omega)).trans hcq
      have f62 : w2.frozen? ⟨g6, 0, none⟩ = false := by rw [(bcell hb2).2 _ _ (by omega)]; exact HFQ.out
      have HB2 := Lib.hid (HBEL.out.trans (hb2.mono (by omega)))
      have HOS := Lib.hid hos.rd
      clear hss ssl hos hb2 HSQ hcq
      go_upto_region 9 with fail
      have b3 : Below w2.heap.size w2 (w2.alloc (.cells #[.slice so (n + 1) scap] 28)) := (Below.refl _ _).alloc (Nat.le_refl _) _
      have c7 : (w2.alloc (.cells #[.slice so (n + 1) scap] 28)).cell? ⟨w2.heap.size, 0, none⟩ = some (.slice so (n + 1) scap) := World.cell?_alloc_new w2 #[.slice so (n + 1) scap] 28 0
      have z3 : (w2.alloc (.cells #[.slice so (n + 1) scap] 28)).heap.size = w2.heap.size + 1 := by simp
      obtain ⟨g7, hg7⟩ : ∃ g7, w2.heap.size = g7 := ⟨_, rfl⟩
      rw [hg7] at c7
      (try rw [hg7])
      generalize (w2.alloc (.cells #[.slice so (n + 1) scap] 28)) = w3 at *
      have c63 := (b3.cell (p := ⟨g6, 0, none⟩) (by simp only; omega)).trans c62
      have F63 := Lib.hid (show w3.frozen? ⟨g6, 0, none⟩ = false by rw [(bcell b3).2 _ _ (by omega)]; exact f62)
      have HB3 := Lib.hid (HB2.out.trans (b3.mono (by omega)))
      have HOS3 := Lib.hid (HOS.out.below b3)
      have C63 := Lib.hid c63
      have l7 : g7 < w3.heap.size := by omega
      have l67 : g6 < g7 := by omega
      clear b3 c62 f62 HB2 HOS hg7 c63 HRD HBEL HFQ HCQ
      rcases HOS3.out.openC with ⟨rfl, _⟩ | ⟨sb, soff, scap2, hve, hsb, hscp, hsc⟩
      · have := HSSL.out; simp at this
      simp only [Value.slice.injEq] at hve
      obtain ⟨rfl, hxx, rfl⟩ := hve
      clear hxx
      have HC := Lib.hid (show ∀ i, i < n + 1 → w3.cell? ⟨sb, soff + i, none⟩ = some (.complex .f32 (ss.getD i (0, 0)).1 (ss.getD i (0, 0)).2) from fun i hi => by
        rw [hsc i (by rw [HSSL.out]; exact hi)]; simp [List.getD, show i < ss.length by rw [HSSL.out]; exact hi])
      have HGS := Lib.hid (fun i => show nc (ss.getD i (0, 0)) = (squareF (radI (rs.map nc) j)).getD i (0, 0) by rw [← HSS.out, getD_nc])
      have FT := Lib.hid (HR.out.fit j hlt)
      clear hsc hscp
      go_wp2_with fail
      go_loopw [9, 44] (fun mv kv wx => ∃ (k : Nat), k ≤ n + 1 ∧ kv = .int .i64 (k : Int) ∧ mv = .float .f32 (mostF (squareF (radI (rs.map nc) j)) k) ∧ Below w3.heap.size w3 wx) (fun _ kv _ => n + 1 - (intOf kv).toNat)
      case atStart => exact ⟨0, Nat.zero_le _, rfl, rfl, Below.refl _ _⟩
      case round =>
        obtain ⟨k, hk, rfl, rfl, hbx⟩ := hrel
        obtain ⟨wx, hwx⟩ : ∃ wx, wx = wr := ⟨wr, rfl⟩
        subst hwx
        have HBX := Lib.hid hbx
        have sx := hbx.size
        have c7x := (hbx.cell (p := ⟨g7, 0, none⟩) (by simp only; omega)).trans c7
        by_cases hkt : k < n + 1
        · have c1 := (hbx.cell (p := ⟨sb, soff + k, none⟩) (by simp only; omega)).trans (HC.out k hkt)
          obtain ⟨ft1, fa⟩ := FT.out k hkt
          rw [← HGS.out k] at ft1 fa
          have HMK := Lib.hid (show maxW (mostF (squareF (radI (rs.map nc) j)) k) (longF (nc (ss.getD k (0, 0)))) = mostF (squareF (radI (rs.map nc) j)) (k + 1) by rw [HGS.out k]; rfl)
          have fm := mostF_fin (S := squareF (radI (rs.map nc) j)) (m := n + 1) (fun k hk => (FT.out k hk).2) (Nat.le_of_lt hkt)
          have FT1 := Lib.hid ft1
          have j0 : (0 : Int) ≤ (k : Int) := by omega
          have j1 : (k : Int) < ((n + 1 : Nat) : Int) := by omega
          have j2 : (k : Int) < (n : Int) + 1 := by omega
          generalize ss.getD k (0, 0) = X at *
          obtain ⟨x1, x2⟩ := X
          have FM := Lib.hid fm
          have FA := Lib.hid fa
          clear ft1 fa fm hbx
          go_wp2_with fail
          (go_at_call 47; ((with_reducible refine (long_impl (x1, x2) FT1 _).mono ?_); rintro e w5 ⟨a, ma, rfl, ha, rfl⟩))
          obtain rfl : a = longF (nc (x1, x2)) := nrm_fin ha FA.out
          have fm := FM.out
          have fa := FA.out
          have RM := fun (P : Program) ts t w' => run_maxf (P := P) fm fa ts t w'
          clear ha
          go_wp2_with fail
          go_roundw
          case rel => exact ⟨k + 1, by omega, by go_num, by rw [← HMK.out], below_drewN HBX.out _⟩
          case measure => simp [intOf]; omega
        · obtain rfl : k = n + 1 := by omega
          obtain ⟨mw, hmw⟩ : ∃ mw, mostF (squareF (radI (rs.map nc) j)) (n + 1) = mw := ⟨_, rfl⟩
          have HDV := Lib.hid (show radI (rs.map nc) (j + 1) = divF (squareF (radI (rs.map nc) j)) mw by rw [← hmw, ← HSL.out]; rfl)
          have HNM := Lib.hid (show nrm .f32 mw = mw by rw [← hmw]; exact fN_nrm (mostF_fin (S := squareF (radI (rs.map nc) j)) (m := n + 1) (fun k hk => (FT.out k hk).2) (Nat.le_refl _)))
          rw [hmw]
          have C6X := Lib.hid ((hbx.cell (p := ⟨g6, 0, none⟩) (by simp only; omega)).trans C63.out)
          have F6X := Lib.hid (show wx.frozen? ⟨g6, 0, none⟩ = false by rw [hbx.frozen (p := ⟨g6, 0, none⟩) (by simp only; omega)]; exact F63.out)
          have HCX := Lib.hid (show ∀ i, i < n + 1 → wx.cell? ⟨sb, soff + i, none⟩ = some (.complex .f32 (ss.getD i (0, 0)).1 (ss.getD i (0, 0)).2) from fun i hi => (hbx.cell (p := ⟨sb, soff + i, none⟩) (by simp only; omega)).trans (HC.out i hi))
          have BXX := Lib.hid (HB3.out.trans (hbx.mono (by omega)))
          have sbx : sb < wx.heap.size := by omega
          have l7x : g7 < wx.heap.size := by omega
          have hL : ¬ (((n + 1 : Nat) : Int) < (n : Int) + 1) := by omega
          clear hmw hbx HC HB3 C63 F63 hk
          go_wp2_with fail
          go_loopw [12, 57] (fun ov kv wy => ∃ (k : Nat) (ts : List C2), k ≤ n + 1 ∧ kv = .int .i64 (k : Int) ∧ RowV 32 wy wx.heap.size ov (cx ts) ∧ ts.map nc = (divF (squareF (radI (rs.map nc) j)) mw).take k ∧ Below wx.heap.size wx wy) (fun _ kv _ => n + 1 - (intOf kv).toNat)
          case atStart => exact ⟨0, [], Nat.zero_le _, rfl, row_nil (Nat.le_refl _) _, rfl, by (repeat' (first | (with_reducible exact Below.refl _ _) | (with_reducible assumption) | (with_reducible refine Below.alloc ?_ ?_ _) | (with_reducible refine Below.setCell ?_ ?_ _) | (with_reducible refine Below.drew ?_) | (with_reducible refine Below.via (by assumption) ?_ ?_) | go_size))⟩
          case round =>
            obtain ⟨k, ts, hk, rfl, hrow, hts, hby⟩ := hrel
            obtain ⟨wy, hwy⟩ : ∃ wy, wy = wr := ⟨wr, rfl⟩
            subst hwy
            have HBY := Lib.hid hby
            have sy := hby.size
            have HRW := Lib.hid hrow
            have HTS := Lib.hid hts
            have tl : ts.length = k := by
              have := congrArg List.length hts
              rw [List.length_map, List.length_take, divF_len, HSL.out] at this
              omega
            by_cases hkt : k < n + 1
            · have c1 := (hby.cell (p := ⟨sb, soff + k, none⟩) (by simp only; omega)).trans (HCX.out k hkt)
              have HLN := Lib.hid (show (cx ts).length ≤ 1099511627776 by rw [cx_length]; omega)
              have HX := Lib.hid (show (divF (squareF (radI (rs.map nc) j)) mw).take (k + 1) = (divF (squareF (radI (rs.map nc) j)) mw).take k ++ [(fop .quo .f32 (nc (ss.getD k (0, 0))).1 mw, fop .quo .f32 (nc (ss.getD k (0, 0))).2 mw)] by
                rw [HGS.out k]; exact div_succ _ _ _ (by rw [HSL.out]; exact hkt))
              have j0 : (0 : Int) ≤ (k : Int) := by omega
              have j1 : (k : Int) < ((n + 1 : Nat) : Int) := by omega
              have j2 : (k : Int) < (n : Int) + 1 := by omega
              generalize ss.getD k (0, 0) = X at *
              obtain ⟨x1, x2⟩ := X
              clear hrow hts hby tl
              go_wp2_with (first | (with_reducible refine wpList_fop rfl .quo _ _ _ _ rfl rfl .f32 x1 _ rfl rfl ?_; intro d1 m1 hd1) | (with_reducible refine wpList_fop rfl .quo _ _ _ _ rfl rfl .f32 x2 _ rfl rfl ?_; intro d2 m2 hd2) | (at_builtin; go_must (refine wpList_pushV (.complex .f32 0 0) 8 HRW.out infoC rfl rfl (by decide) rfl _ _ rfl Tryz.underlying25 HLN.out (by omega) rfl rfl rfl rfl rfl rfl ?_); intro v1 w1 hr1 hb1 hgw ho1))
              have HD := Lib.hid (show nc (d1, d2) = (fop .quo .f32 (nc (x1, x2)).1 mw, fop .quo .f32 (nc (x1, x2)).2 mw) by rw [HNM.out] at hd1 hd2; exact Prod.ext hd1 hd2)
              go_roundw
              case rel => exact ⟨k + 1, ts ++ [(d1, d2)], by omega, by go_num, by rw [← cx_push]; exact hr1, by rw [List.map_append, HTS.out, HX.out, List.map_cons, List.map_nil, HD.out], HBY.out.trans hb1⟩
              case measure => simp [intOf]; omega
            · obtain rfl : k = n + 1 := by omega
              have HTQ := Lib.hid (show ts.map nc = radI (rs.map nc) (j + 1) by rw [hts, HDV.out, List.take_of_length_le (by rw [divF_len, HSL.out]; omega)])
              have c6y := (hby.cell (p := ⟨g6, 0, none⟩) (by simp only; omega)).trans C6X.out
              have f6y : wy.frozen? ⟨g6, 0, none⟩ = false := by rw [hby.frozen (p := ⟨g6, 0, none⟩) (by simp only; omega)]; exact F6X.out
              have HBZ := Lib.hid (BXX.out.trans (hby.mono (by omega)))
              obtain ⟨to', tcap, rfl, _⟩ := hrow.rd.shape
              rw [cx_length, tl] at hrow ⊢
              have HOW := Lib.hid hrow.own
              have VAL := Lib.hid (HR.out.val (j + 1) (by omega)).2
              have HTL := Lib.hid tl
              have g6y : g6 < wy.heap.size := by omega
              clear hrow hts hby tl C6X F6X HRW HTS HBY
              go_upto_region 22 with fail
              have OS := own_set (j := 0) HOW.out (show g6 < wx.heap.size by omega) (.slice to' (n + 1) tcap)
              have cs6 := setCell_self c6y (.slice to' (n + 1) tcap)
              have fs6 : (wy.setCell ⟨g6, 0, none⟩ (.slice to' (n + 1) tcap)).frozen? ⟨g6, 0, none⟩ = false := by go_simp; try exact f6y
              have zs6 : (wy.setCell ⟨g6, 0, none⟩ (.slice to' (n + 1) tcap)).heap.size = wy.heap.size := by simp
              have BS := HBZ.out.setCell (p := ⟨g6, 0, none⟩) (by simp) (.slice to' (n + 1) tcap)
              generalize (wy.setCell ⟨g6, 0, none⟩ (.slice to' (n + 1) tcap)) = wz at *
              have HRZ := Lib.hid OS.rd
              have HBS := Lib.hid BS
              have HFS := Lib.hid fs6
              clear OS BS fs6 c6y f6y HOW HBZ
              go_wp2_with fail
              (go_at_call 40; ((with_reducible refine (valid_impl _ ts _ HRZ.out (by have := HTL.out; omega) (by have := HTL.out; omega)).mono ?_); rw [HTQ.out, VAL.out]; rintro e wv ⟨rfl, hbv⟩))
              have cv6 := (hbv.cell (p := ⟨g6, 0, none⟩) (by simp only; omega)).trans cs6
              have fv6 : wv.frozen? ⟨g6, 0, none⟩ = false := by rw [(bcell hbv).2 _ _ (by omega)]; exact HFS.out
              have HRV := Lib.hid (HRZ.out.below hbv)
              have HBV := Lib.hid (HBS.out.trans (hbv.mono (by omega)))
              have HFV := Lib.hid fv6
              have HCV := Lib.hid cv6
              clear hbv fv6 cv6 cs6
              go_wp2_with fail
              go_roundw
              case rel => exact ⟨j + 1, _, ts, by omega, by go_num, HCV.out, HFV.out, HRV.out, HTQ.out, HBV.out⟩
              case measure => simp [intOf]; omega
    · obtain rfl : j = 3 := by omega
      have jK : ¬ ((3 : Int) < tm) := by have := HST.out; omega
      rcases HRD.out.openC with ⟨rfl, _⟩ | ⟨qb, qoff, qcap2, hve, hqb, hqcp, hqc⟩
      · have := HQL.out; simp at this
      simp only [Value.slice.injEq] at hve
      obtain ⟨rfl, hxx, rfl⟩ := hve
      clear hxx
      have HC := Lib.hid (show ∀ i, i < n + 1 → wr.cell? ⟨qb, qoff + i, none⟩ = some (.complex .f32 (qs.getD i (0, 0)).1 (qs.getD i (0, 0)).2) from fun i hi => by
        rw [hqc i (by rw [HQL.out]; exact hi)]; simp [List.getD, show i < qs.length by rw [HQL.out]; exact hi])
      have HGQ := Lib.hid (fun i => show nc (qs.getD i (0, 0)) = (radI (rs.map nc) 3).getD i (0, 0) by rw [← HQS.out, getD_nc])
      obtain ⟨wq, hwq⟩ : ∃ wq, wq = wr := ⟨wr, rfl⟩
      subst hwq
      have g6q : g6 < wq.heap.size := by omega
      have FT := Lib.hid HR.out.lng
      clear hqc hqcp
      go_wp2_with fail
      go_loopw [15, 84] (fun ov kv wx => ∃ (k : Nat) (ls : List Nat), k ≤ n + 1 ∧ kv = .int .i64 (k : Int) ∧ RowV 33 wx wq.heap.size ov (fl ls) ∧ ls.map (nrm .f32) = (List.range k).map (lenF (rs.map nc)) ∧ Below wq.heap.size wq wx) (fun _ kv _ => n + 1 - (intOf kv).toNat)
      case atStart => exact ⟨0, [], Nat.zero_le _, rfl, row_nil (Nat.le_refl _) _, by simp, (Below.refl _ _).alloc (Nat.le_refl _) _⟩
      case round =>
        obtain ⟨k, ls, hk, rfl, hrow, hls, hbx⟩ := hrel
        obtain ⟨wx, hwx⟩ : ∃ wx, wx = wr := ⟨wr, rfl⟩
        subst hwx
        have HBX := Lib.hid hbx
        have sx := hbx.size
        have HRW := Lib.hid hrow
        have HLS := Lib.hid hls
        have tl : ls.length = k := by have := congrArg List.length hls; simpa using this
        by_cases hkt : k < n + 1
        · have c1 := (hbx.cell (p := ⟨qb, qoff + k, none⟩) (by simp only; omega)).trans (HC.out k hkt)
          have ft1 := FT.out k hkt
          rw [← HGQ.out k] at ft1
          have HLN := Lib.hid (show (fl ls).length ≤ 1099511627776 by rw [fl_length]; omega)
          have HMK := Lib.hid (show lenF (rs.map nc) k = longF (nc (qs.getD k (0, 0))) by rw [HGQ.out k]; rfl)
          have FT1 := Lib.hid ft1
          have j0 : (0 : Int) ≤ (k : Int) := by omega
          have j1 : (k : Int) < ((n + 1 : Nat) : Int) := by omega
          have j2 : (k : Int) < (n : Int) + 1 := by omega
          generalize qs.getD k (0, 0) = X at *
          obtain ⟨x1, x2⟩ := X
          clear ft1 hbx hrow hls tl
          go_wp2_with fail
          (go_at_call 47; ((with_reducible refine (long_impl (x1, x2) FT1 _).mono ?_); rintro e w5 ⟨a, ma, rfl, ha, rfl⟩))
          have HA := Lib.hid ha
          clear ha
          go_wp2_with (at_builtin; go_must (refine wpList_pushV (.float .f32 0) 4 HRW.out infoF rfl rfl (by decide) rfl _ _ rfl Tryz.underlying39 HLN.out (by omega) rfl rfl rfl rfl rfl rfl ?_); intro v1 w1 hr1 hb1 hgw ho1)
          go_roundw
          case rel => exact ⟨k + 1, ls ++ [a], by omega, by go_num, by rw [← fl_push]; exact hr1, by rw [List.map_append, HLS.out, List.range_succ, List.map_append, List.map_cons, List.map_nil, List.map_cons, List.map_nil, HA.out, ← HMK.out], HBX.out.trans hb1⟩
          case measure => simp [intOf]; omega
        · obtain rfl : k = n + 1 := by omega
          have hL : ¬ (((n + 1 : Nat) : Int) < (n : Int) + 1) := by omega
          have HAB := Lib.hid (show allAb ls = posF (rs.map nc) n by unfold posF; rw [← hls]; simp [allAb, List.all_map]; rfl)
          have HGL := Lib.hid (fun i => show i < n + 1 → nrm .f32 (ls.getD i 0) = lenF (rs.map nc) i from fun hi => by rw [← getD_nrm, hls]; simp [List.getD, hi])
          obtain ⟨lo, lcap, rfl, _⟩ := hrow.rd.shape
          rw [fl_length, tl] at hrow ⊢
          have HRL := Lib.hid hrow.rd
          have HLL := Lib.hid tl
          have C6X := Lib.hid ((hbx.cell (p := ⟨g6, 0, none⟩) (by simp only; omega)).trans hcq)
          have HRQ := Lib.hid (HRD.out.below hbx)
          have BX3 := Lib.hid (HBEL.out.trans (hbx.mono (by omega)))
          have BXW := Lib.hid (B3.out.trans (BX3.out.mono (by omega)))
          have g6x : g6 < wx.heap.size := by omega
          clear hrow hls hbx HRW HLS tl hk hcq
          go_wp2_with fail
          (go_at_call 48; ((with_reducible refine (arePositive_impl _ ls _ HRL.out (by have := HLL.out; omega)).mono ?_); rw [HAB.out]; rintro e w6 ⟨m6, rfl, rfl⟩))
          cases hpos : posF (rs.map nc) n
          · have HF := Lib.hid (show radF (rs.map nc) n = ([], false) by unfold radF; rw [hpos]; rfl)
            clear hpos
            go_wp2_with fail
            go_ret2
            rw [HF.out]
            exact ⟨_, [], rfl, rfl, ⟨none, 0, rfl, ⟨by simp, by simp [maxLen]⟩, .inl rfl⟩, below_drewN BXW.out _⟩
          · have HF := Lib.hid (show radF (rs.map nc) n = ((List.range n).map (outF (rs.map nc) n), true) by unfold radF; rw [hpos]; rfl)
            have HLG := Lib.hid (fun k (hk : k < n + 1) => HR.out.log k hk (posF_get hpos hk))
            have HOU := Lib.hid (fun k (hk : k < n) => HR.out.out k hk (posF_get hpos (by omega)) (posF_get hpos (by omega)))
            clear hpos
            have c6y : (wx.drewN m6).cell? ⟨g6, 0, none⟩ = some (.slice (some ⟨qb, qoff, none⟩) (n + 1) qcap) := C6X.out
            have BXY := Lib.hid (below_drewN BXW.out m6)
            have HRY := Lib.hid (HRQ.out.below (drewN_below wx m6))
            have HLY := Lib.hid (HRL.out.below (drewN_below wx m6))
            have g6y : g6 < (wx.drewN m6).heap.size := g6x
            have syw : wq.heap.size ≤ (wx.drewN m6).heap.size := sx
            clear C6X BXW HRQ HRL
            generalize wx.drewN m6 = wy at *
            go_wp2_with fail
            (go_at_call 32; ((with_reducible refine (degree_impl (.slice (some ⟨qb, qoff, none⟩) (n + 1) qcap) qs n _ HRY.out HQL.out (by omega)).mono ?_); rintro e w7 ⟨rfl, hb7⟩))
            have z7 := hb7.size
            have HB7 := Lib.hid (BXY.out.trans (hb7.mono (by omega)))
            have HL7 := Lib.hid (HLY.out.below hb7)
            clear hb7 BXY HLY HRY c6y
            rcases HL7.out.openF with ⟨rfl, _⟩ | ⟨lb, loff, lcap2, hve, hlb, hlcp, hlc⟩
            · have := HLL.out; simp at this
            simp only [Value.slice.injEq] at hve
            obtain ⟨rfl, hxx, rfl⟩ := hve
            clear hxx
            have HCL := Lib.hid (show ∀ i, i < n + 1 → w7.cell? ⟨lb, loff + i, none⟩ = some (.float .f32 (ls.getD i 0)) from fun i hi => by
              rw [hlc i (by rw [HLL.out]; exact hi)]; simp [List.getD, show i < ls.length by rw [HLL.out]; exact hi])
            clear hlc hlcp
            go_wp2_with fail
            go_loopw [19, 101] (fun ov kv wz => ∃ (k : Nat) (us : List Nat), k ≤ n ∧ kv = .int .i64 (k : Int) ∧ RowV 33 wz w7.heap.size ov (fl us) ∧ us.map (nrm .f32) = (List.range k).map (outF (rs.map nc) n) ∧ Below w7.heap.size w7 wz) (fun _ kv _ => n - (intOf kv).toNat)
            case atStart => exact ⟨0, [], Nat.zero_le _, rfl, row_nil (Nat.le_refl _) _, by simp, (Below.refl _ _).alloc (Nat.le_refl _) _⟩
            case round =>
              obtain ⟨k, us, hk, rfl, hrow, hus, hbz⟩ := hrel
              obtain ⟨wz, hwz⟩ : ∃ wz, wz = wr := ⟨wr, rfl⟩
              subst hwz
              have HBZ := Lib.hid hbz
              have sz := hbz.size
              have HRW := Lib.hid hrow
              have HUS := Lib.hid hus
              have tl : us.length = k := by have := congrArg List.length hus; simpa using this
              by_cases hkt : k < n
              · have HLN := Lib.hid (show (fl us).length ≤ 1099511627776 by rw [fl_length]; omega)
                obtain ⟨nm, hnm⟩ : ∃ nm : Nat, n - 1 = nm := ⟨_, rfl⟩
                obtain ⟨i1, hi1⟩ : ∃ i1 : Nat, nm - k = i1 := ⟨_, rfl⟩
                obtain ⟨i2, hi2⟩ : ∃ i2 : Nat, n - k = i2 := ⟨_, rfl⟩
                have q1 : IntKind.i64.wrap ((n : Int) - 1) = (nm : Int) := by rw [IntWalk.i64_in _ ⟨by omega, by omega⟩]; omega
                have q2 : IntKind.i64.wrap ((nm : Int) - (k : Int)) = (i1 : Int) := by rw [IntWalk.i64_in _ ⟨by omega, by omega⟩]; omega
                have q3 : IntKind.i64.wrap ((n : Int) - (k : Int)) = (i2 : Int) := by rw [IntWalk.i64_in _ ⟨by omega, by omega⟩]; omega
                have e1 : i1 < n + 1 := by omega
                have e2 : i2 < n + 1 := by omega
                have c1 := (hbz.cell (p := ⟨lb, loff + i1, none⟩) (by simp only; omega)).trans (HCL.out i1 e1)
                have c2 := (hbz.cell (p := ⟨lb, loff + i2, none⟩) (by simp only; omega)).trans (HCL.out i2 e2)
                have E1 := HGL.out i1 e1
                have E2 := HGL.out i2 e2
                have HAR := Lib.hid (show argF (rs.map nc) n k = fop .quo .f32 (fop .sub .f32 (logG (lenF (rs.map nc) i1)) (logG (lenF (rs.map nc) i2))) (nrm .f32 1090519040) by unfold argF; rw [hnm, hi1, hi2])
                have L1 := HLG.out i1 e1
                have L2 := HLG.out i2 e2
                obtain ⟨EO, EF⟩ := HOU.out k hkt
                rw [← E1] at L1
                rw [← E2] at L2
                generalize ls.getD i1 0 = x1 at *
                generalize ls.getD i2 0 = x2 at *
                have HE1 := Lib.hid E1
                have HE2 := Lib.hid E2
                have HL1 := Lib.hid (fun w1 => logN_impl x1 (Jf (nrm .f32 x1)) w1 (Lib.hid L1))
                have HL2 := Lib.hid (fun w1 => logN_impl x2 (Jf (nrm .f32 x2)) w1 (Lib.hid L2))
                have HEO := Lib.hid EO
                have HEF := Lib.hid EF
                have j0 : (0 : Int) ≤ (k : Int) := by omega
                have j1 : (k : Int) < (n : Int) := by omega
                have j2 : (0 : Int) ≤ (i1 : Int) := by omega
                have j3 : (i1 : Int) < (n : Int) + 1 := by omega
                have j4 : (0 : Int) ≤ (i2 : Int) := by omega
                have j5 : (i2 : Int) < (n : Int) + 1 := by omega
                have j6 : (i1 : Int) < ((n + 1 : Nat) : Int) := by omega
                have j7 : (i2 : Int) < ((n + 1 : Nat) : Int) := by omega
                have tm0 : ¬ (tm < 0) := by have := HST.out; omega
                have tm1 : (0 : Int) ≤ tm := by have := HST.out; omega
                clear hrow hus hbz tl E1 E2 L1 L2 EO EF hnm hi1 hi2
                go_upto_region 38 with fail
                refine wp_region_v 21 HG38 (by kernel_rfl) (by kernel_rfl) ?_
                simp only [List.take_succ_cons, List.take_zero, List.drop_succ_cons, List.drop_zero]
                repeat (apply wpV_det; (exact rfl); (intro nq; go_simp; rfl); (intro K hK; go_simp; refine hK.use ?_; clear hK K))
                (apply wpV_call; (exact rfl); (intro nq; go_simp; first | exact ⟨rfl, rfl⟩ | rfl); (intro nq; refine (HL1.out _).mono ?_; rintro e w' ⟨a, mm, rfl, ha, rfl⟩; exact ⟨_, rfl, ⟨_, a, rfl, rfl, .inl ⟨rfl, ha⟩⟩, nq + mm, by simp [Nat.add_assoc]⟩); (rintro u h); (obtain ⟨a1, rfl, hM1⟩ := HG38.log h); clear h; (intro K hK; go_simp; refine hK.use ?_; clear hK K))
                repeat (apply wpV_det; (exact rfl); (intro nq; go_simp; rfl); (intro K hK; go_simp; refine hK.use ?_; clear hK K))
                (apply wpV_call; (exact rfl); (intro nq; go_simp; first | exact ⟨rfl, rfl⟩ | rfl); (intro nq; refine (HL2.out _).mono ?_; rintro e w' ⟨a, mm, rfl, ha, rfl⟩; exact ⟨_, rfl, ⟨_, a, rfl, rfl, .inl ⟨rfl, ha⟩⟩, nq + mm, by simp [Nat.add_assoc]⟩); (rintro u h); (obtain ⟨a2, rfl, hM2⟩ := HG38.log h); clear h; (intro K hK; go_simp; refine hK.use ?_; clear hK K))
                repeat (apply wpV_det; (exact rfl); (intro nq; go_simp; rfl); (intro K hK; go_simp; refine hK.use ?_; clear hK K))
                (refine wpV_fop .sub _ _ _ _ rfl rfl .f32 _ _ rfl rfl rfl ?_; intro d1 hd1; (intro K hK; go_simp; refine hK.use ?_; clear hK K))
                repeat (apply wpV_det; (exact rfl); (intro nq; go_simp; rfl); (intro K hK; go_simp; refine hK.use ?_; clear hK K))
                have HFW := Lib.hid (show nrm .f32 (floatOfInt .f32 (IntKind.i64.wrap (2 ^ tm.toNat))) = nrm .f32 1090519040 by rw [HST.out]; decide +kernel)
                generalize floatOfInt .f32 (IntKind.i64.wrap (2 ^ tm.toNat)) = fw at *
                (refine wpV_fop .quo _ _ _ _ rfl rfl .f32 _ _ rfl rfl rfl ?_; intro d2 hd2; (intro K hK; go_simp; refine hK.use ?_; clear hK K))
                have HD2 := Lib.hid (show nrm .f32 d2 = argF (rs.map nc) n k by
                  rw [hd2, hd1, hM1, hM2, HE1.out, HE2.out, HAR.out, HFW.out])
                have HX2 := Lib.hid (fun w1 => expN_impl d2 w1 (Lib.hid (by rw [HD2.out]; exact HEO.out)))
                clear hd1 hd2 hM1 hM2
                repeat (apply wpV_det; (exact rfl); (intro nq; go_simp; rfl); (intro K hK; go_simp; refine hK.use ?_; clear hK K))
                (apply wpV_call; (exact rfl); (intro nq; go_simp; first | exact ⟨rfl, rfl⟩ | rfl); (intro nq; refine (HX2.out _).mono ?_; rintro e w' ⟨a, mm, rfl, ha, rfl⟩; exact ⟨_, rfl, ⟨_, a, rfl, rfl, .inr ⟨rfl, ha⟩⟩, nq + mm, by simp [Nat.add_assoc]⟩); (rintro u h); (obtain ⟨a3, rfl, hM3⟩ := HG38.exp h); clear h; (intro K hK; go_simp; refine hK.use ?_; clear hK K))
                repeat (apply wpV_det; (exact rfl); (intro nq; go_simp; rfl); (intro K hK; go_simp; refine hK.use ?_; clear hK K))
                refine wpV_nil (fun nq => ?_)
                have HM3 := Lib.hid (show nrm .f32 a3 = outF (rs.map nc) n k by rw [hM3, HD2.out]; rfl)
                have dz := drewN_below wz nq
                have HBD := Lib.hid (HBZ.out.trans (dz.mono sz))
                have HRW2 := Lib.hid (HRW.out.below dz)
                have HFIN := Lib.hid (show finF (nrm .f32 a3) = true by rw [HM3.out]; exact HEF.out)
                have hzz : w7.heap.size ≤ (wz.drewN nq).heap.size := sz
                clear dz hM3 c1 c2 tm0 tm1
                generalize wz.drewN nq = wd at *
                go_wp2_with (first | (go_at_call 51; ((with_reducible refine (isFinite_impl a3 _).mono ?_); rw [HFIN.out]; rintro e w' ⟨mf, rfl, rfl⟩)) | (at_builtin; go_must (refine wpList_pushV (.float .f32 0) 4 HRW2.out infoF rfl rfl (by decide) rfl _ _ rfl Tryz.underlying39 HLN.out (by omega) rfl rfl rfl rfl rfl rfl ?_); intro v1 w1 hr1 hb1 hgw ho1))
                go_roundw
                case rel => exact ⟨k + 1, us ++ [a3], by omega, by go_num, by rw [← fl_push]; exact hr1, by rw [List.map_append, HUS.out, List.range_succ, List.map_append, List.map_cons, List.map_nil, List.map_cons, List.map_nil, HM3.out], HBD.out.trans hb1⟩
                case measure => simp [intOf]; omega
              · obtain rfl : k = n := by omega
                go_wp2_with fail
                go_ret2
                rw [HF.out]
                exact ⟨_, us, rfl, hus, hrow.rd, HB7.out.trans (hbz.mono (by omega))⟩
end Go.Proofs.YtfnhddaofllniaaGreat
