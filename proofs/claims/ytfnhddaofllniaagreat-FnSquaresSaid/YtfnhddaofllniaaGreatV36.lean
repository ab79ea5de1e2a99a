/- FnSquares: the walk. Conditions: those of its statement. -/
import Derived.Test.YtfnhddaofllniaaGreatV35
import Derived.Deep.CutBlock
import Derived.Deep.RegionHeld3
import Derived.Deep.DeepCutAuto
namespace Go.Proofs.YtfnhddaofllniaaGreat
open Go Go.RowKit
set_option linter.unusedSimpArgs false
set_option linter.unusedVariables false

section
variable {P : Program} {w : World} {ops : Array Oper} {rest : List Oper} {o : Oper} {a : Act} {Q : Exit → Act → World → Prop}
theorem wpList_caddg (op : BinOp) (hop : op = .add ∨ op = .sub) (t t' : TypeId) (X Y : Operand) (ho : o.op = .binOp op t X Y t') (x1 x2 y1 y2 : Nat) (hx : a.eval X = .complex .f32 x1 x2) (hy : a.eval Y = .complex .f32 y1 y2) (hgd : Region.wanted o (yielded ops a.tmps) = true)
    (h : ∀ r s n, nrm .f32 r = fop op .f32 (nrm .f32 x1) (nrm .f32 y1) → nrm .f32 s = fop op .f32 (nrm .f32 x2) (nrm .f32 y2) → wpList P ops Q rest (a.put o.dst (.complex .f32 r s)) (w.drewN n)) : wpList P ops Q (o :: rest) a w := by
  refine wpList_wanted hgd fun K hK => ?_
  obtain ⟨r, s, n, hrun, hr, hs⟩ := run_cadd (P := P) w op hop t x1 x2 y1 y2
  unfold Oper.wp
  rcases hop with rfl | rfl
  all_goals
    simp [execOp, ho, hx, hy, hrun, Result.andThen, eqGuard]
    exact hK _ _ (h r s n hr hs)
theorem wpList_widg (X : Operand) (ho : o.op = .convert 33 37 X) (x : Nat) (hx : a.eval X = .float .f32 x) (hgd : Region.wanted o (yielded ops a.tmps) = true)
    (h : ∀ r n, nrm .f64 r = wd (nrm .f32 x) → wpList Tryz.prog ops Q rest (a.put o.dst (.float .f64 r)) (w.drewN n)) : wpList Tryz.prog ops Q (o :: rest) a w :=
  wpList_fcvtg 33 37 X ho .f32 .f64 x (by rw [Tryz.underlying33]; rfl) Tryz.underlying37 hx (fits_widen _) hgd h
end
theorem upon_cadd {P : Program} {o : Oper} {a : Act} {next : Act → World → Prop} {Q : Exit → Act → World → Prop} {w : World} (op : BinOp) (hop : op = .add ∨ op = .sub) (t : TypeId) (x1 x2 y1 y2 : Nat)
    (h : ∀ r s n, nrm .f32 r = fop op .f32 (nrm .f32 x1) (nrm .f32 y1) → nrm .f32 s = fop op .f32 (nrm .f32 x2) (nrm .f32 y2) → next (a.put o.dst (.complex .f32 r s)) (w.drewN n)) :
    Oper.upon P o a next Q (((binOp op t (.complex .f32 x1 x2) (.complex .f32 y1 y2)).run P w).andThen fun v w' => .ok (.value v) w') := by
  obtain ⟨r, s, n, hrun, hr, hs⟩ := run_cadd (P := P) w op hop t x1 x2 y1 y2
  rw [hrun]
  exact h r s n hr hs
set_option maxRecDepth 10000 in
theorem upon_wid {o : Oper} {a : Act} {next : Act → World → Prop} {Q : Exit → Act → World → Prop} {w : World} (x : Nat)
    (h : ∀ r n, nrm .f64 r = wd (nrm .f32 x) → next (a.put o.dst (.float .f64 r)) (w.drewN n)) :
    Oper.upon Tryz.prog o a next Q (((convert 33 37 (.float .f32 x)).run Tryz.prog w).andThen fun v w' => .ok (.value v) w') := by
  obtain ⟨r, n, hrun, hr⟩ := run_fcvt (P := Tryz.prog) w 33 37 .f32 .f64 x (by rw [Tryz.underlying33]; rfl) Tryz.underlying37 (fits_widen _)
  rw [hrun]
  have hr2 : nrm .f64 r = wd (nrm .f32 x) := hr
  clear hr hrun
  exact h r n hr2
theorem sub_eq {g1 g2 a b c d : Nat} (h1 : nrm .f32 g1 = fop .sub .f32 (nrm .f32 a) (nrm .f32 c)) (h2 : nrm .f32 g2 = fop .sub .f32 (nrm .f32 b) (nrm .f32 d)) : nc (g1, g2) = subC (nc (a, b)) (nc (c, d)) := Prod.ext h1 h2
theorem k_one : nrm .f64 4607182418800017408 = 4607182418800017408 := by decide +kernel
theorem k_cent : nrm .f64 4576918229304087675 = 4576918229304087675 := by decide +kernel
theorem words_eq {us vs : List Nat} {F : List Nat} (hu : us.map (nrm .f32) = F) (hv : vs.map (nrm .f32) = F) (fu : ∀ i, i < us.length → fN .f32 (us.getD i 0) = true) (fv : ∀ i, i < vs.length → fN .f32 (vs.getD i 0) = true) : us = vs := by
  have l1 := congrArg List.length hu
  have l2 := congrArg List.length hv
  rw [List.length_map] at l1 l2
  refine List.ext_getElem (by omega) fun i h1 h2 => ?_
  have a := getD_nrm us i
  have b := getD_nrm vs i
  rw [hu] at a
  rw [hv] at b
  rw [fN_nrm (fu i h1)] at a
  rw [fN_nrm (fv i h2)] at b
  have c := a.symm.trans b
  simpa [List.getD, h1, h2] using c
theorem radF_len {P : List C2} {n : Nat} (h : (radF P n).2 = true) : (radF P n).1.length = n := by
  unfold radF at h ⊢
  by_cases hp : posF P n = true
  · rw [if_pos hp]; simp
  · rw [if_neg hp] at h; cases h
@[go_sem] theorem unary_negc (k : FloatKind) (a b : Nat) : Op.unary .neg (.complex k a b) = pure (.complex k (Op.negFloat k a) (Op.negFloat k b)) := rfl
set_option maxRecDepth 1000000 in
set_option maxHeartbeats 20000000 in
theorem law_Squares (va : Value) (a : List Int) (vb : Value) (b : List Int) (w : World) (ha : RdB w va a) (hb : RdB w vb b) : Calls Tryz.prog 3 #[va, vb] w (RB true w) := by
  have BL := Lib.hid (b10Long_law va vb a b w ha hb)
  cases hlong : longB a b
  case true =>
    rw [hlong] at BL
    go_enter Tryz.func3, Tryz.ntmps3
    go_wp2_with fail
    refine BL.out.mono ?_
    rintro e w' ⟨rfl, rfl⟩
    go_wp2_with fail
    go_ret
    exact ⟨rfl, Below.refl _ _⟩
  case false =>
    rw [hlong] at BL
    have hal : a.length ≤ 1048576 := by
      have : ¬ (1048576 < a.length ∨ 1048576 < b.length) := by simpa [longB] using hlong
      omega
    have Ha := Lib.hid ha
    have Hb := Lib.hid hb
    clear ha hb hlong
    go_enter Tryz.func3, Tryz.ntmps3
    go_wp2_with fail
    refine BL.out.mono ?_
    rintro e w' ⟨rfl, rfl⟩
    clear BL
    go_wp2_with fail
    (go_at_call 5; ((with_reducible refine (b10At_any _ b 0 4 _ Hb.out (by omega) (by omega) (by omega) (by omega)).mono ?_); rintro e w' ⟨n0, rfl, hn0, hn1, rfl⟩))
    obtain ⟨n, hn⟩ : ∃ n : Nat, (n : Int) = 1 + n0 := ⟨(1 + n0).toNat, by omega⟩
    have qn : IntKind.i64.wrap (1 + n0) = (n : Int) := by rw [IntWalk.i64_in _ ⟨by omega, by omega⟩, hn]
    have hn4 : n ≤ 4 := by omega
    have hn1' : 1 ≤ n := by omega
    clear hn hn0 hn1
    go_wp2_with fail
    (go_at_call 6; ((with_reducible refine (b10Roots_spec _ a n _ Ha.out hal (by omega)).mono ?_); rintro e w1 ⟨lv, ls, rfl, hls, hd, ho1, hb1⟩))
    have hDL : DL ls := ⟨by omega, by omega, by rw [hls]; exact hd⟩
    obtain ⟨X, hX⟩ := hDL.ex (by omega)
    have LV := Lib.hid ho1.rd
    have B1 := Lib.hid hb1
    have Hb1 := Lib.hid (Hb.out.below hb1)
    have HX := Lib.hid hX
    have AF := Lib.hid hDL.allFin
    clear ho1 hb1 hd qn Ha Hb hDL hX hal
    obtain ⟨ao, cap, rfl, _⟩ := LV.out.shape
    rw [cx_length] at LV ⊢
    subst hls
    have PS := polyOfRoots_spec _ ls w1 LV.out (by omega) (by omega) AF.out (Lib.hid (HX.out.poly (by omega) hn4).1)
    rw [(HX.out.poly (by omega) hn4).2.1] at PS
    have PS := Lib.hid PS
    go_wp2_with fail
    (go_at_call 7; ((with_reducible refine (PS.out).mono ?_); rintro e w2 ⟨pv, rs, rfl, hrs, ho2, hb2⟩))
    have HP := Lib.hid (show DP rs ls X from ⟨HX.out, hn1', hn4, hrs⟩)
    have LV2 := Lib.hid (LV.out.below hb2)
    have Hb2 := Lib.hid (Hb1.out.below hb2)
    have B2 := Lib.hid (B1.out.trans (hb2.mono B1.out.size))
    have PV2 := Lib.hid ho2.rd
    obtain ⟨po, pcap, rfl, _⟩ := PV2.out.shape
    have lrs : rs.length = ls.length + 1 := HP.out.len
    rw [cx_length, lrs] at PV2 ⊢
    have LRS := Lib.hid lrs
    clear ho2 hb2 LV Hb1 B1 PS hrs HX lrs AF
    go_upto_region 6 with fail
    generalize hg8 : World.alloc _ _ = w3
    have Hg8 := Lib.hid hg8
    clear hg8
    have hB8 : Below w2.heap.size w2 w3 := by rw [← Hg8.out]; (repeat' (first | (with_reducible exact Below.refl _ _) | (with_reducible assumption) | (with_reducible refine Below.alloc ?_ ?_ _) | (with_reducible refine Below.setCell ?_ ?_ _) | (with_reducible refine Below.drew ?_) | (with_reducible refine Below.via (by assumption) ?_ ?_) | go_size))
    have x3 : w3.cell? ⟨w2.heap.size, 0, none⟩ = some (.slice po (ls.length + 1) pcap) := by rw [← Hg8.out]; go_simp
    have LV3 := Lib.hid (LV2.out.below hB8)
    have Hb3 := Lib.hid (Hb2.out.below hB8)
    have B3 := Lib.hid (B2.out.trans (hB8.mono B2.out.size))
    have PV3 := Lib.hid (PV2.out.below hB8)
    clear Hg8 hB8 LV2 Hb2 B2 PV2
    generalize w2.heap.size = a7 at *
    have la7 := World.block_lt_of_cell? _ _ x3
    have X3 := Lib.hid x3
    generalize hN : ls.length = N at *
    have HN := Lib.hid hN
    clear hN
    go_wp2_with fail
    (go_at_call 8; ((with_reducible refine (HP.out.squared _ _ PV3.out).mono ?_); rintro e w4 ⟨sv, ss, rfl, hss, hos, hb4⟩))
    have ssl : ss.length = N + 1 := by
      have := congrArg List.length hss
      have e := (HP.out.h.square HP.out.h1 HP.out.h4).2.1
      rw [← HP.out.e] at e
      rw [List.length_map] at this
      rw [this]; exact e.trans (by rw [HN.out])
    obtain ⟨so, scap, rfl, _⟩ := hos.rd.shape
    rw [cx_length, ssl] at hos ⊢
    have HSS := Lib.hid hss
    have HSL := Lib.hid ssl
    have HOS := Lib.hid hos.rd
    have HB4 := Lib.hid hb4
    have s4 := hb4.size
    have x4 := (hb4.cell (p := ⟨a7, 0, none⟩) la7).trans x3
    clear hss ssl hos hb4 x3
    go_upto_region 9 with fail
    have b5 : Below w4.heap.size w4 (w4.alloc (.cells #[.slice so (N + 1) scap] 28)) := (Below.refl _ _).alloc (Nat.le_refl _) _
    have y5 : (w4.alloc (.cells #[.slice so (N + 1) scap] 28)).cell? ⟨w4.heap.size, 0, none⟩ = some (.slice so (N + 1) scap) := World.cell?_alloc_new w4 #[.slice so (N + 1) scap] 28 0
    generalize (w4.alloc (.cells #[.slice so (N + 1) scap] 28)) = w5 at *
    have HB5 := Lib.hid (HB4.out.trans (b5.mono s4))
    have HOS5 := Lib.hid (HOS.out.below b5)
    have x5 := (HB5.out.cell (p := ⟨a7, 0, none⟩) la7).trans X3.out
    generalize w4.heap.size = a9 at *
    have la9 := World.block_lt_of_cell? _ _ y5
    have Y5 := Lib.hid y5
    clear b5 HOS HB4 x4 s4 y5
    go_wp2_with fail
    (go_at_call 9; ((with_reducible refine (HP.out.squaredS _ _ (PV3.out.below HB5.out)).mono ?_); rintro e w6 ⟨qv, qq, rfl, _, hqo, hb6⟩))
    obtain ⟨qo, qcap, rfl, _⟩ := hqo.rd.shape
    clear hqo
    have s5 := HB5.out.size
    have s6 := hb6.size
    have HB56 := Lib.hid hb6
    clear hb6 x5
    go_upto_region 12 with fail
    have b7 : ∀ o, Below w6.heap.size w6 (w6.alloc o) := fun o => (Below.refl _ _).alloc (Nat.le_refl _) o
    generalize hg7 : World.alloc _ _ = w7
    have b67 : Below w6.heap.size w6 w7 := by rw [← hg7]; exact b7 _
    clear hg7 b7
    have HB57 := Lib.hid (HB56.out.trans (b67.mono s6))
    have HB7 := Lib.hid (HB5.out.trans (HB57.out.mono s5))
    have Hb7 := Lib.hid (Hb3.out.below HB7.out)
    clear b67 HB56 s6
    go_wp2_with fail
    (go_at_call 5; ((with_reducible refine (b10At_any _ b 1 9 _ Hb7.out (by omega) (by omega) (by omega) (by omega)).mono ?_); rintro e w' ⟨y1, rfl, hy1, hy1', rfl⟩))
    have q1 : IntKind.i64.wrap (y1 - 4) = y1 - 4 := IntWalk.i64_in _ ⟨by omega, by omega⟩
    go_wp2_with (with_reducible refine wpList_fop rfl _ _ _ _ _ rfl rfl .f32 _ _ rfl rfl ?_; intro r mr hr)
    have HR1 := Lib.hid (show nrm .f32 r = qt (y1 - 4) from hr)
    clear hr
    have Hb8 := Lib.hid (Hb7.out.below (drewN_below w7 mr))
    have HB58 := Lib.hid (HB57.out.trans ((drewN_below w7 mr).mono HB57.out.size))
    generalize World.drewN w7 mr = w8 at *
    (go_at_call 5; ((with_reducible refine (b10At_any _ b 2 9 _ Hb8.out (by omega) (by omega) (by omega) (by omega)).mono ?_); rintro e w' ⟨y2, rfl, hy2, hy2', rfl⟩))
    have q2 : IntKind.i64.wrap (y2 - 4) = y2 - 4 := IntWalk.i64_in _ ⟨by omega, by omega⟩
    go_upto_region 13 with (with_reducible refine wpList_fop rfl _ _ _ _ _ rfl rfl .f32 _ _ rfl rfl ?_; intro r2 mr2 hr2)
    have HR2 := Lib.hid (show nrm .f32 r2 = qt (y2 - 4) from hr2)
    have HB59 := Lib.hid (HB58.out.trans ((drewN_below w8 mr2).mono HB58.out.size))
    clear hr2 q1 q2 Hb7 Hb8 HB57 HB58 HB7
    generalize World.drewN w8 mr2 = w9 at *
    have hgr := at_gr2 (z := (r, r2)) ⟨hy1, hy1'⟩ ⟨hy2, hy2'⟩ (Prod.ext HR1.out HR2.out)
    obtain ⟨ns1, ns2, ns3, ns4, ns5, u, v, pu, pv, su, sv, fuv, last⟩ := HP.out.h.near_sides HP.out.h1 HP.out.h4 (by omega) (by omega) hgr
    rw [← HP.out.e] at ns4 ns5 pu pv su sv last
    have HB9 := Lib.hid (HB5.out.trans (HB59.out.mono s5))
    have x9 := (HB9.out.cell (p := ⟨a7, 0, none⟩) la7).trans X3.out
    have PV9 := Lib.hid (PV3.out.below HB9.out)
    have H2 := Lib.hid ns2
    have H3 := Lib.hid ns3
    have H4 := Lib.hid ns4
    have H5 := Lib.hid ns5
    have HLA := Lib.hid last
    have HFU := Lib.hid fuv
    have PU := Lib.hid (show ∀ wx, RdV wx (.slice po (N + 1) pcap) (cx rs) → Calls Tryz.prog 10 #[.agg #[.slice po (N + 1) pcap], .complex .f32 r r2] wx (RetXB (u, true) wx) from fun wx hx => by
      have := polyAt_spec _ rs (r, r2) wx hx (by have := LRS.out; omega) (by have := LRS.out; omega) (Lib.hid fun _ _ => su)
      rwa [pu] at this)
    have PN := Lib.hid (show ∀ (z2 : C2) wx, nc z2 = turnC (nc (r, r2)) → RdV wx (.slice po (N + 1) pcap) (cx rs) → Calls Tryz.prog 10 #[.agg #[.slice po (N + 1) pcap], .complex .f32 z2.1 z2.2] wx (RetXB (v, true) wx) from fun z2 wx hz hx => by
      have := polyAt_spec _ rs z2 wx hx (by have := LRS.out; omega) (by have := LRS.out; omega) (Lib.hid fun _ _ => by rw [hz]; exact sv)
      rw [hz, pv] at this
      exact this)
    clear ns1 ns2 ns3 ns4 ns5 pu pv su sv fuv last hgr HR1 HR2 hy1 hy1' hy2 hy2'
    go_wp2_with fail
    (go_at_call 10; ((with_reducible refine (PU.out _ PV9.out).mono ?_); rintro e w10 ⟨u1, u2, rfl, hu1, hu2, hb10⟩))
    have HU := Lib.hid (show nc (u1, u2) = u from Prod.ext hu1 hu2)
    have x10 := (hb10.cell (p := ⟨a7, 0, none⟩) (World.block_lt_of_cell? _ _ x9)).trans x9
    have HB510 := Lib.hid (HB59.out.trans (hb10.mono HB59.out.size))
    have PV10 := Lib.hid (PV9.out.below hb10)
    clear hb10 hu1 hu2 x9 PV9 PU HB59 HB9
    go_wp2_with fail
    have HN2 := Lib.hid (show nc (Op.negFloat .f32 r, Op.negFloat .f32 r2) = turnC (nc (r, r2)) from Prod.ext (nrm_neg r) (nrm_neg r2))
    (go_at_call 10; ((with_reducible refine (PN.out (Op.negFloat .f32 r, Op.negFloat .f32 r2) _ HN2.out PV10.out).mono ?_); rintro e w11 ⟨v1, v2, rfl, hv1, hv2, hb11⟩))
    have HV := Lib.hid (show nc (v1, v2) = v from Prod.ext hv1 hv2)
    have HB511 := Lib.hid (HB510.out.trans (hb11.mono HB510.out.size))
    have y11 := (HB511.out.cell (p := ⟨a9, 0, none⟩) la9).trans Y5.out
    have HOS11 := Lib.hid (HOS5.out.below HB511.out)
    clear hb11 hv1 hv2 x10 PV10 PN HB510
    have hneT : (true != true) = false := rfl
    have la11 : a9 < w11.heap.size := World.block_lt_of_cell? _ _ y11
    go_upto_region 18 with fail
    have PW := Lib.hid (show ∀ (z2 : C2) wx, nc z2 = mulC (nc (r, r2)) (nc (r, r2)) → RdV wx (.slice so (N + 1) scap) (cx ss) → Calls Tryz.prog 11 #[.agg #[.slice so (N + 1) scap], .complex .f32 z2.1 z2.2] wx (RetXB (nestedF (squareF (rs.map nc)) (mulC (nc (r, r2)) (nc (r, r2))), true) wx) from fun z2 wx hz hx => by
      have := polyAt_impl _ ss z2 wx hx (by have := HSL.out; omega) (by have := HSL.out; omega) (Lib.hid fun _ _ => by rw [hz, HSS.out]; exact H4.out)
      rw [hz, HSS.out] at this
      rw [H5.out] at this
      exact this)
    go_cut [18, 19] (fun v18 v19 wx => ∃ p1 p2, v18 = .complex .f32 p1 p2 ∧ nc (p1, p2) = nestedF (squareF (rs.map nc)) (mulC (nc (r, r2)) (nc (r, r2))) ∧ v19 = .bool true ∧ Below w11.heap.size w11 wx)
    case first =>
      go_region_held3 (fun w' => w'.cell? ⟨a9, 0, none⟩ = some (.slice so (N + 1) scap)) (first | assumption | exact (hbp.cell (p := ⟨a9, 0, none⟩) la11).trans y11) (first | (go_at_call 12; ((with_reducible refine (mulC_spec (r, r2) (r, r2) H2 _).mono ?_); rintro e wm ⟨z1, z2, mz, rfl, hz1, hz2, rfl⟩; have HZZ := Lib.hid (show nc (z1, z2) = mulC (nc (r, r2)) (nc (r, r2)) from Prod.ext hz1 hz2))) | (go_at_call 11; ((with_reducible refine (PW.out (z1, z2) _ HZZ.out (HOS11.out.below (below_drewN (Below.refl _ _) _))).mono ?_); rintro e wp ⟨p1, p2, rfl, hp1, hp2, hbp⟩)))
      all_goals (go_wp2_with fail)
      all_goals go_meet
      exact ⟨p1, p2, rfl, Prod.ext hp1 hp2, rfl, (show Below w11.heap.size w11 _ from below_drewN (Below.refl _ _) _).trans hbp⟩
    case rest =>
      obtain ⟨p1, p2, rfl, hpw, rfl, hbx⟩ := hcut
      obtain ⟨wk, hwk⟩ : ∃ wk, wk = wc := ⟨wc, rfl⟩
      subst hwk
      have HPW := Lib.hid hpw
      have HB5k := Lib.hid (HB511.out.trans (hbx.mono HB511.out.size))
      have HFU2 := Lib.hid (show fit2 (timesF (nc (u1, u2)) (nc (v1, v2))) by rw [HU.out, HV.out]; exact HFU.out)
      clear hpw hbx PW HOS11 y11 HB511
      go_step
      go_wp2_with fail
      (go_at_call 12; ((with_reducible refine (mulC_spec (u1, u2) (v1, v2) HFU2 _).mono ?_); rintro e w12 ⟨m1, m2, mm, rfl, hm1, hm2, rfl⟩))
      have HM := Lib.hid (show nc (m1, m2) = mulC u v by rw [← HU.out, ← HV.out]; exact Prod.ext hm1 hm2)
      have HB5m := Lib.hid (below_drewN HB5k.out mm)
      clear hm1 hm2
      generalize wk.drewN mm = wm at *
      go_upto_if 107 with fail
      go_cut [20] (fun v20 wx => ∃ n1 n2, v20 = .complex .f32 n1 n2 ∧ nc (n1, n2) = (if ls.length % 2 = 1 then turnC (mulC u v) else mulC u v) ∧ Below w5.heap.size w5 wx)
      case first =>
        by_cases hpar : N % 2 = 1
        · have hp1 : (N : Int) % 2 = 1 := by omega
          have hp2 : Int.tmod (N : Int) 2 = 1 := by rw [Int.tmod_eq_emod_of_nonneg (by omega)]; omega
          go_wp2_with fail
          go_meet
          exact ⟨_, _, rfl, by rw [HN.out, if_pos hpar, ← HM.out]; exact Prod.ext (nrm_neg m1) (nrm_neg m2), HB5m.out⟩
        · have hp1 : (N : Int) % 2 = 0 := by omega
          have hp2 : Int.tmod (N : Int) 2 = 0 := by rw [Int.tmod_eq_emod_of_nonneg (by omega)]; omega
          go_wp2_with fail
          go_meet
          exact ⟨m1, m2, rfl, by rw [HN.out, if_neg hpar, ← HM.out], HB5m.out⟩
      case rest =>
        obtain ⟨n1, n2, rfl, hnw, hbx⟩ := hcut
        obtain ⟨F1, F2, F3⟩ := HLA.out _ rfl
        generalize (if ls.length % 2 = 1 then turnC (mulC u v) else mulC u v) = uvW at *
        generalize nestedF (squareF (rs.map nc)) (mulC (nc (r, r2)) (nc (r, r2))) = wW at *
        have HNW := Lib.hid hnw
        have L1 := Lib.hid F1
        have L2 := Lib.hid F2
        have yc := (hbx.cell (p := ⟨a9, 0, none⟩) la9).trans Y5.out
        have HB5c := Lib.hid hbx
        have HB3c := Lib.hid (HB5.out.trans (hbx.mono s5))
        have xc := (HB3c.out.cell (p := ⟨a7, 0, none⟩) la7).trans X3.out
        have wl : IntKind.i64.wrap ((N : Int) + 1) = (N : Int) + 1 := by rw [IntWalk.i64_in _ ⟨by omega, by omega⟩]
        clear hnw F1 F2 hbx HB5m HB5k HM HFU2 HLA HU HV
        go_step
        go_wp2_with (first | (with_reducible refine wpList_caddg .sub (.inr rfl) _ _ _ _ rfl _ _ _ _ rfl rfl (by with_unfolding_all rfl) ?_; intro g1 g2 mg hg1 hg2; have Hg := sub_eq hg1 hg2; clear hg1 hg2; rw [HPW.out, HNW.out] at Hg) | (go_at_call 13; refine (longOf_spec (g1, g2) (Lib.hid (by rw [Hg]; exact L1.out)) _).mono ?_; rintro e w' ⟨lr, ml, rfl, hlr, rfl⟩; rw [Hg] at hlr; clear Hg) | (go_at_call 13; refine (longOf_spec (n1, n2) (Lib.hid (by rw [HNW.out]; exact L2.out)) _).mono ?_; rintro e w' ⟨lr, ml, rfl, hlr, rfl⟩; rw [HNW.out] at hlr) | (with_reducible refine wpList_fopg .add _ _ _ _ rfl rfl .f64 _ _ rfl rfl (by with_unfolding_all rfl) ?_; intro s ms hs; rw [k_one, hq] at hs; clear hq) | (with_reducible refine wpList_fopg .mul _ _ _ _ rfl rfl .f64 _ _ rfl rfl (by with_unfolding_all rfl) ?_; intro s2 ms2 hs2; rw [k_cent, hs] at hs2; clear hs) | (with_reducible refine wpList_widg _ rfl _ rfl (by with_unfolding_all rfl) ?_; intro q mq hq; rw [hlr] at hq; clear hlr))
        generalize hwt : World.drewN wc _ = wt
        have HBt := Lib.hid (HB3c.out.trans ((show Below wc.heap.size wc wt by rw [← hwt]; exact below_drewN (Below.refl _ _) _).mono HB3c.out.size))
        have HBt5 := Lib.hid (show Below wc.heap.size wc wt by rw [← hwt]; exact below_drewN (Below.refl _ _) _)
        have xt := (HBt.out.cell (p := ⟨a7, 0, none⟩) la7).trans X3.out
        clear hwt HB3c HB5c xc yc F3
        have HRA := Lib.hid (fun wx hx => HP.out.radii (.slice po (N + 1) pcap) wx hx)
        have HRN := Lib.hid (fun (us : List Nat) hu => HP.out.radN (us := us) hu)
        have HRL := Lib.hid (show (radF (rs.map nc) ls.length).2 = true → (radF (rs.map nc) ls.length).1.length = ls.length from radF_len)
        generalize radF (rs.map nc) ls.length = RF at *
        (go_at_call 14; ((with_reducible refine ((HRA.out _ (PV3.out.below HBt.out)).1).mono ?_); rintro e w20 ⟨rv, us, rfl, hus, hru, hb20⟩))
        have HB20 := Lib.hid (HBt.out.trans (hb20.mono HBt.out.size))
        have x20 := (HB20.out.cell (p := ⟨a7, 0, none⟩) la7).trans X3.out
        have HUS := Lib.hid hus
        have HRU := Lib.hid hru
        clear hb20 hus hru xt HBt HBt5
        go_wp2_with fail
        (go_at_call 15; ((with_reducible refine ((HRA.out _ (PV3.out.below HB20.out)).2).mono ?_); rintro e w21 ⟨tv, vs, rfl, hvs, hrv, hb21⟩))
        have HUV := Lib.hid (show us = vs from words_eq HUS.out hvs (HRN.out us HUS.out) (HRN.out vs hvs))
        have HB21 := Lib.hid (HB20.out.trans (hb21.mono HB20.out.size))
        have HRU21 := Lib.hid (HRU.out.below hb21)
        have HRV := Lib.hid hrv
        have x21 := (HB21.out.cell (p := ⟨a7, 0, none⟩) la7).trans X3.out
        clear hb21 hvs hrv HRU x20 HB20 HRA
        obtain ⟨RL, RB2⟩ := RF
        dsimp only at HUS HRL ⊢
        go_upto_region 26 with fail
        have bn : (RB2 != RB2) = false := by cases RB2 <;> rfl
        go_cut [154] (fun v154 wx => v154 = .bool false ∧ Below w21.heap.size w21 wx)
        case first =>
          cases RB2
          · go_wp2_with fail
            go_meet
            exact ⟨rfl, Below.refl _ _⟩
          · have ul : us.length = N := by
              have := congrArg List.length HUS.out
              rw [List.length_map] at this
              exact this.trans ((HRL.out rfl).trans HN.out)
            have LW := Lib.hid (b10List_law _ _ us vs w21 HRU21.out HRV.out (by omega) (by omega) HUV.out (fun i hi => by
              have := HRN.out us HUS.out i hi
              rw [fN_nrm this]
              exact (fcmp_self (fN_not_nan this)).1))
            go_wp2_with (go_at_call 16; ((with_reducible refine (LW.out).mono ?_); rintro e w22 ⟨rfl, hb22⟩))
            go_meet
            exact ⟨rfl, hb22⟩
        case rest =>
          obtain ⟨rfl, hbx⟩ := hcut
          obtain ⟨wr26, hwr⟩ : ∃ wr26, wr26 = wc := ⟨wc, rfl⟩
          subst hwr
          have HB26 := Lib.hid (HB21.out.trans (hbx.mono HB21.out.size))
          have x26 := (HB26.out.cell (p := ⟨a7, 0, none⟩) la7).trans X3.out
          clear hbx x21 HB21 HRU21 HRV HUV HUS HRL HRN
          go_step
          go_upto_region 28 with fail
          have la26 : a7 < wr26.heap.size := World.block_lt_of_cell? _ _ x26
          rcases PV3.out.openC with ⟨h0, _⟩ | ⟨pb, poff, pcap2, hve, hpb, _, _⟩
          · have := LRS.out
            rw [h0] at this
            simp at this
          simp only [Value.slice.injEq] at hve
          obtain ⟨rfl, hxx, rfl⟩ := hve
          clear hxx
          have hnr : cx rs ≠ [] := by rw [← List.length_pos_iff, cx_length, LRS.out]; omega
          have hlr : (cx rs).length ≤ 1099511627776 := by rw [cx_length, LRS.out]; omega
          have PV26 := Lib.hid (PV3.out.below HB26.out)
          have s26 := HB26.out.size
          go_upto_region 29 with (at_builtin; go_must (refine wpList_cloneV (.complex .f32 0 0) 8 infoC rfl (cx_one rs) (by decide) rfl _ _ rfl Tryz.underlying25 PV26.out hnr hlr rfl rfl rfl ?_); intro g1 cap1 w27 hg1 ho27 hb27; rw [cx_length, LRS.out] at ho27 ⊢; have HO27 := Lib.hid ho27; have HB27 := Lib.hid hb27; clear ho27 hb27)
          have s27 := HB27.out.size
          obtain ⟨ce1, fe1, ge1⟩ := own_cell HO27.out (i := 0) (by rw [LRS.out]; omega)
          have b28 : Below w27.heap.size w27 (w27.alloc (.cells #[.slice (some ⟨g1, 0, none⟩) (N + 1) cap1] 28)) := (Below.refl _ _).alloc (Nat.le_refl _) _
          have y28 : (w27.alloc (.cells #[.slice (some ⟨g1, 0, none⟩) (N + 1) cap1] 28)).cell? ⟨w27.heap.size, 0, none⟩ = some (.slice (some ⟨g1, 0, none⟩) (N + 1) cap1) := World.cell?_alloc_new w27 #[.slice (some ⟨g1, 0, none⟩) (N + 1) cap1] 28 0
          have z28 : w27.heap.size < (w27.alloc (.cells #[.slice (some ⟨g1, 0, none⟩) (N + 1) cap1] 28)).heap.size := by simp
          generalize (w27.alloc (.cells #[.slice (some ⟨g1, 0, none⟩) (N + 1) cap1] 28)) = w28 at *
          have ce2 := (b28.cell (p := ⟨g1, 0, none⟩) (by simp only; omega)).trans ce1
          have fe2 : w28.frozen? ⟨g1, 0, none⟩ = false := by rw [(bcell b28).2 _ _ (by omega)]; exact fe1
          have HO28 := Lib.hid (HO27.out.below b28)
          have HB28 := Lib.hid (HB26.out.trans ((HB27.out.trans (b28.mono s27)).mono s26))
          obtain ⟨a25, ha25⟩ : ∃ a25, w27.heap.size = a25 := ⟨_, rfl⟩
          rw [ha25] at y28 z28
          (try rw [ha25])
          have gl : g1 < a25 := by omega
          have g3 : w3.heap.size ≤ g1 := by omega
          have ge2 : g1 < w28.heap.size := by omega
          have HC0 := Lib.hid (getD_nc rs 0)
          have Y28 := Lib.hid y28
          clear ce1 fe1 ge1 b28 ha25 HO27 HB27 s27 hg1 PV26 HB26 x26 la26 s26
          generalize hx0 : rs.getD 0 (0, 0) = X0 at *
          obtain ⟨c01, c02⟩ := X0
          go_upto_region 30 with (with_reducible refine wpList_cadd rfl .add (.inl rfl) _ _ _ _ rfl _ _ _ _ rfl rfl ?_; intro d1 d2 md hd1 hd2)
          have HBS := Lib.hid (show (rs.set 0 (d1, d2)).map nc = qP (rs.map nc) by
            rw [map_set_nc]
            unfold qP
            rw [HC0.out]
            congr 1
            exact Prod.ext (hd1.trans (by rw [show nrm .f32 1031798784 = 1031798784 by decide +kernel]; rfl)) (hd2.trans (by rw [nrm0]; rfl)))
          generalize hwz : World.setCell _ _ _ = wz
          have HWZ := Lib.hid hwz
          clear hwz hd1 hd2
          have HBz := Lib.hid (show Below w3.heap.size w3 wz by
            rw [← HWZ.out]
            exact (below_drewN HB28.out md).setCell (p := ⟨g1, 0, none⟩) (by simp only; omega) _)
          have HOz := Lib.hid (show OwV 32 wz wr26.heap.size (.slice (some ⟨g1, 0, none⟩) (N + 1) cap1) (cx (rs.set 0 (d1, d2))) by
            rw [← HWZ.out, ← cx_set]
            exact (show OwV 32 (w28.drewN md) wr26.heap.size (.slice (some ⟨g1, 0, none⟩) (N + 1) cap1) (cx rs) from HO28.out).set 0 _)
          have yz : wz.cell? ⟨a25, 0, none⟩ = some (.slice (some ⟨g1, 0, none⟩) (N + 1) cap1) := by
            rw [← HWZ.out]
            exact (cellZ (w := w28.drewN md) (by omega)).trans Y28.out
          have xz := (HBz.out.cell (p := ⟨a7, 0, none⟩) la7).trans X3.out
          obtain ⟨R, hRl, hR, hfol⟩ := HP.out.follow HBS.out
          have HFO := Lib.hid hfol
          have hneV : (Value.slice (some ⟨pb, poff, none⟩) (N + 1) pcap) ≠ (Value.slice (some ⟨g1, 0, none⟩) (N + 1) cap1) := by
            intro h
            simp only [Value.slice.injEq, Option.some.injEq, Addr.mk.injEq] at h
            omega
          have HNE := Lib.hid hneV
          clear hneV hfol HO28 HB28 HWZ ce2 fe2 y28
          go_wp2_with fail
          (go_at_call 17; ((with_reducible refine ((HFO.out _ _ _ _ (PV3.out.below HBz.out) HOz.out.rd (LV3.out.below HBz.out) HNE.out).1).mono ?_); rintro e w31 ⟨fv, fq, rfl, hfq, hfo, hb31⟩))
          have HB31 := Lib.hid (HBz.out.trans (hb31.mono HBz.out.size))
          have HO31 := Lib.hid (HOz.out.rd.below hb31)
          have y31 := (hb31.cell (p := ⟨a25, 0, none⟩) (World.block_lt_of_cell? _ _ yz)).trans yz
          have x31 := (HB31.out.cell (p := ⟨a7, 0, none⟩) la7).trans X3.out
          clear hb31 hfo hfq HBz HOz yz xz
          go_wp2_with fail
          (go_at_call 18; ((with_reducible refine ((HFO.out _ _ _ _ (PV3.out.below HB31.out) HO31.out (LV3.out.below HB31.out) HNE.out).2).mono ?_); rintro e w32 ⟨mv, mq, rfl, hmq, hmo, hb32⟩))
          have HB32 := Lib.hid (HB31.out.trans (hb32.mono HB31.out.size))
          have HO32 := Lib.hid (HO31.out.below hb32)
          have y32 := (hb32.cell (p := ⟨a25, 0, none⟩) (World.block_lt_of_cell? _ _ y31)).trans y31
          have HMR := Lib.hid hmo.rd
          have mql : mq.length = N := by have := congrArg List.length hmq; rw [List.length_map, hRl, HN.out] at this; exact this
          obtain ⟨mo, mcap, rfl, _⟩ := HMR.out.shape
          rw [cx_length, mql] at HMR ⊢
          obtain ⟨F, hF, hmiss⟩ := HP.out.moved (us := mq) HBS.out hRl hR hmq
          have HMI := Lib.hid hmiss
          have HFF := Lib.hid hF
          clear hb32 hmo hmq hmiss hF HB31 HO31 y31 x31 HFO hRl hR mql
          go_wp2_with fail
          (go_at_call 19; ((with_reducible refine ((HMI.out _ _ _ HO32.out HMR.out).1).mono ?_); rintro e w33 ⟨m1', rfl, hm1, hb33⟩))
          have HB33 := Lib.hid (HB32.out.trans (hb33.mono HB32.out.size))
          have HO33 := Lib.hid (HO32.out.below hb33)
          have HMR33 := Lib.hid (HMR.out.below hb33)
          have y33 := (hb33.cell (p := ⟨a25, 0, none⟩) (World.block_lt_of_cell? _ _ y32)).trans y32
          have HM1 := Lib.hid hm1
          clear hb33 hm1 HB32 HO32 HMR y32
          go_wp2_with fail
          (go_at_call 20; ((with_reducible refine ((HMI.out _ _ _ HO33.out HMR33.out).2).mono ?_); rintro e w34 ⟨m2', rfl, hm2, hb34⟩))
          have HB34 := Lib.hid (B3.out.trans ((HB33.out.trans (hb34.mono HB33.out.size)).mono B3.out.size))
          have HM2 := Lib.hid hm2
          clear hb34 hm2 HB33 HO33 HMR33 y33
          cases hF2 : F.2
          · go_wp2_with fail
            go_ret
            exact ⟨by first | rfl | simp, HB34.out⟩
          · have fm := HFF.out hF2
            have e1' : m1' = F.1 := nrm_fin HM1.out fm
            have e2' : m2' = F.1 := nrm_fin HM2.out fm
            have HSM := Lib.hid (fun wx => same_spec m1' m2' wx (by rw [e1', fN_nrm fm]; exact (fcmp_self (fN_not_nan fm)).1) (by rw [e1', e2']))
            clear fm e1' e2'
            go_wp2_with (go_at_call 21; ((with_reducible refine (HSM.out _).mono ?_); rintro e w35 ⟨rfl, rfl⟩))
            go_ret
            exact ⟨by first | rfl | simp, HB34.out⟩
end Go.Proofs.YtfnhddaofllniaaGreat
