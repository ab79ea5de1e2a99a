/- FnOrdered: the walk. Conditions: those of its statement. -/
import Derived.Test.YtalfkkagbajjcaaZ22
import Derived.Deep.CutBlock
import Derived.Deep.RegionHeld3
namespace Go.Proofs.Ytalfkkagbajjcaa
open Go Go.RowKit

set_option linter.unusedSimpArgs false
set_option linter.unusedVariables false

@[go_sem high] theorem complex_neqG (t : TypeId) (a b c d : Nat) : binOp .neq t (.complex .f32 a b) (.complex .f32 c d) = pure (.bool (!(fcmp .eql .f32 (nrm .f32 a) (nrm .f32 c) && fcmp .eql .f32 (nrm .f32 b) (nrm .f32 d)))) := complex_neqF t a b c d
/-- The greatest number so far. -/
def mostC (C : List Int) (i : Nat) : Int := (((seenC C i).length : Nat) : Int) - 1
theorem most_next (C : List Int) (i : Nat) : max (mostC C i) (outC C i) = mostC C (i + 1) ∧ outC C i ≤ mostC C i + 1 ∧ -1 ≤ mostC C i ∧ mostC C i ≤ (i : Int) := by
  have h1 := seen_mem C i
  have h2 : (seenC C (i + 1)).idxOf (C.getD i 0) < (seenC C (i + 1)).length := List.idxOf_lt_length_of_mem h1
  have h3 := seen_le C i
  unfold mostC outC
  by_cases h : C.getD i 0 ∈ seenC C i
  · have e : seenC C (i + 1) = seenC C i := by rw [seen_succ, if_pos h]
    rw [e] at h2 ⊢
    omega
  · have e : seenC C (i + 1) = seenC C i ++ [C.getD i 0] := by rw [seen_succ, if_neg h]
    have e2 : (seenC C (i + 1)).idxOf (C.getD i 0) = (seenC C i).length := by rw [e, List.idxOf_append, if_neg h]; simp
    rw [e2, e, List.length_append]
    simp only [List.length_cons, List.length_nil]
    omega
theorem lo_pt : GridPt (nc loW) := by rw [← corner]; exact grid_pt (by decide) (by decide)
/-- The length of a difference. -/
def GD (D : C2) (f : FuncId) (args : Array Value) (u : Value) : Prop := ∃ a, u = .float .f32 a ∧ nrm .f32 a = longF D

set_option maxRecDepth 1000000 in
set_option maxHeartbeats 20000000 in
theorem law_Ordered (va : Value) (a : List Int) (vb : Value) (b : List Int) (w : World) (ha : RdB w va a) (hb : RdB w vb b) : Calls Try.prog 3 #[va, vb] w (RB true w) := by
  have BL := Lib.hid (b10Long_law va vb a b w ha hb)
  cases hlong : longB a b
  case true =>
    rw [hlong] at BL
    go_enter Try.func3, Try.ntmps3
    go_wp2_with fail
    refine BL.out.mono ?_
    rintro e w' ⟨rfl, rfl⟩
    go_wp2_with fail
    go_ret
    exact ⟨rfl, Below.refl _ _⟩
  case false =>
    rw [hlong] at BL
    have hal : a.length ≤ 1048576 := by
      have : ¬ (1048576 < a.length ∨ 1048576 < b.length) := by simpa [longB] using hlong
      omega
    have Ha := Lib.hid ha
    have Hb := Lib.hid hb
    clear ha hb hlong
    go_enter Try.func3, Try.ntmps3
    go_wp2_with fail
    refine BL.out.mono ?_
    rintro e w' ⟨rfl, rfl⟩
    clear BL
    go_wp2_with fail
    (go_at_call 5; ((with_reducible refine (b10At_any _ b 0 6 _ Hb.out (by omega) (by omega) (by omega) (by omega)).mono ?_); rintro e w' ⟨n0, rfl, hn0, hn1, rfl⟩))
    obtain ⟨n, hn⟩ : ∃ n : Nat, (n : Int) = 1 + n0 := ⟨(1 + n0).toNat, by omega⟩
    have qn : IntKind.i64.wrap (1 + n0) = (n : Int) := by rw [IntWalk.i64_in _ ⟨by omega, by omega⟩, hn]
    have hn6 : n ≤ 6 := by omega
    have hn1' : 1 ≤ n := by omega
    clear hn hn0 hn1
    go_wp2_with fail
    (go_at_call 6; ((with_reducible refine (b10Roots_spec _ a n _ Ha.out hal hn6).mono ?_); rintro e w1 ⟨lv, ls, rfl, hls, hd, ho1, hb1⟩))
    have hDL : DL ls := ⟨by omega, by omega, by rw [hls]; exact hd⟩
    have D := Lib.hid hDL
    have LV := Lib.hid ho1.rd
    have B1 := Lib.hid hb1
    have Hb1 := Lib.hid (Hb.out.below hb1)
    clear ho1 hb1 hd qn Ha Hb hDL
    obtain ⟨ao, cap, rfl, _⟩ := LV.out.shape
    rw [cx_length] at LV ⊢
    subst hls
    go_wp2_with fail
    (go_at_call 7; ((with_reducible refine (order_rises _ ls _ LV.out D.out.h1 (by omega) D.out.allFin D.out.rises).mono ?_); rintro e w2 ⟨ov, rfl, ho2, hb2⟩))
    have OV := Lib.hid ho2.rd
    have LV2 := Lib.hid (LV.out.below hb2)
    have B2 := Lib.hid (B1.out.trans (hb2.mono B1.out.size))
    have Hb2 := Lib.hid (Hb1.out.below hb2)
    clear ho2 hb2 LV B1 Hb1
    obtain ⟨oo, ocap, rfl, _⟩ := OV.out.shape
    rw [cx_length] at OV ⊢
    go_wp2_with fail
    (go_at_call 8; ((with_reducible refine (match_self _ _ ls _ LV2.out OV.out D.out.h1 (by omega) D.out.allFin (Lib.hid fun i k hi hk => D.out.fit hi hk) (Lib.hid fun i hi => D.out.zero hi) (Lib.hid fun i k hi hk => D.out.pos hi hk)).mono ?_); rintro e w3 ⟨mv, rfl, ho3, hb3⟩))
    have MV := Lib.hid ho3.rd
    have LV3 := Lib.hid (LV2.out.below hb3)
    have OV3 := Lib.hid (OV.out.below hb3)
    have B3 := Lib.hid (B2.out.trans (hb3.mono B2.out.size))
    have Hb3 := Lib.hid (Hb2.out.below hb3)
    clear ho3 hb3 LV2 B2 Hb2 OV
    obtain ⟨mo, mcap, rfl, _⟩ := MV.out.shape
    rw [gi_length, firstI_length] at MV ⊢
    go_wp2_with fail
    (go_at_call 5; ((with_reducible refine (b10At_any _ b 1 17 _ Hb3.out (by omega) (by omega) (by omega) (by omega)).mono ?_); rintro e w' ⟨t0, rfl, ht0, ht1, rfl⟩))
    obtain ⟨t, rfl⟩ := Int.eq_ofNat_of_zero_le ht0
    have ht17 : t < 17 := by omega
    clear ht0 ht1
    go_wp2_with (with_reducible refine wpList_fop rfl _ _ _ _ _ rfl rfl .f32 _ _ rfl rfl ?_; intro r m hr; have HR := Lib.hid hr; clear hr)
    have HN := Lib.hid (show nrm .f32 r = nearW t from HR.out)
    have ⟨hnf, hnn⟩ := near_ok t ht17
    have LV4 := Lib.hid (LV3.out.below (drewN_below w3 m))
    have OV4 := Lib.hid (OV3.out.below (drewN_below w3 m))
    have MV4 := Lib.hid (MV.out.below (drewN_below w3 m))
    have Hb4 := Lib.hid (Hb3.out.below (drewN_below w3 m))
    have B4 := Lib.hid (below_drewN B3.out m)
    clear HR LV3 OV3 MV Hb3 B3
    generalize World.drewN w3 m = w4 at *
    (go_at_call 9; ((with_reducible refine (clusters_impl _ ls r _ LV4.out D.out.h1 (by omega) D.out.allFin (by rw [HN.out]; exact hnf) (by rw [HN.out]; exact hnn) (Lib.hid fun i k hi hk => D.out.fit hi hk)).mono ?_); rintro e w5 ⟨cv, rfl, ho5, hb5⟩))
    rw [HN.out] at ho5
    have hcl : closeF (ls.map nc) (nearW t) = closeF (ls.map nc) (nearW t) := rfl
    have LV5 := Lib.hid (LV4.out.below hb5)
    have OV5 := Lib.hid (OV4.out.below hb5)
    have MV5 := Lib.hid (MV4.out.below hb5)
    have Hb5 := Lib.hid (Hb4.out.below hb5)
    have B5 := Lib.hid (B4.out.trans (hb5.mono B4.out.size))
    have CV5 := Lib.hid ho5.rd
    clear ho5 hb5 LV4 OV4 MV4 Hb4 B4 hnf hnn hcl
    obtain ⟨co, ccap, rfl, _⟩ := CV5.out.shape
    rw [gi_length, List.length_map, List.length_range] at CV5 ⊢
    have e1' : ((ls.length : Int) != (ls.length : Int)) = false := by simp
    have e2' : ((ls.length : Int) == (ls.length : Int)) = true := by simp
    have C5 := LV5.out.openC
    rcases C5 with ⟨h0, _⟩ | ⟨lb, lo, lc, hq1, hlb, hcp, hlc⟩
    · rw [h0] at hn1'; simp at hn1'
    simp only [Value.slice.injEq, true_and] at hq1
    obtain ⟨rfl, rfl⟩ := hq1
    have C5 := OV5.out.openC
    rcases C5 with ⟨h0, _⟩ | ⟨ob, oo, oc, hq1, hob, _, hoc⟩
    · rw [h0] at hn1'; simp at hn1'
    simp only [Value.slice.injEq, true_and] at hq1
    obtain ⟨rfl, rfl⟩ := hq1
    obtain ⟨mb, mo2, mc, hq3, hmb, _, hmc⟩ := MV5.out.open (by rw [← List.length_pos_iff, gi_length, firstI_length]; omega)
    rw [gi_length, firstI_length] at hq3 hmc
    simp only [Value.slice.injEq, true_and] at hq3
    obtain ⟨rfl, rfl⟩ := hq3
    obtain ⟨cb, co2, cc, hq3, hcb, _, hcc⟩ := CV5.out.open (by rw [← List.length_pos_iff, gi_length, List.length_map, List.length_range]; omega)
    rw [gi_length, List.length_map, List.length_range] at hq3 hcc
    simp only [Value.slice.injEq, true_and] at hq3
    obtain ⟨rfl, rfl⟩ := hq3
    have HX := Lib.hid (show ∀ i k, closeF (ls.map nc) (nearW t) i k = fcmp .leq .f32 (longF (subC (nc (ls.getD i (0, 0))) (nc (ls.getD k (0, 0))))) (nearW t) from fun i k => by
      unfold closeF; rw [getD_nc, getD_nc])
    have HE := Lib.hid (fun i k (hi : i < ls.length) (hk : k < i) (h : closeF (ls.map nc) (nearW t) i k = true) => outC_eq (clO (closeF (ls.map nc) (nearW t)) ls.length ls.length) (Nat.le_of_lt hk) (clO_eq hi hk h ls.length hi))
    generalize closeF (ls.map nc) (nearW t) = CL at *
    generalize clO CL ls.length ls.length = C at *
    have Lc := Lib.hid (show ∀ i, i < ls.length → w5.cell? ⟨lb, lo + i, none⟩ = some (.complex .f32 (ls.getD i (0, 0)).1 (ls.getD i (0, 0)).2) from fun i hi => by
      rw [hlc i hi]; simp [List.getD, hi])
    have Oc := Lib.hid (show ∀ i, i < ls.length → w5.cell? ⟨ob, oo + i, none⟩ = some (.complex .f32 (ls.getD i (0, 0)).1 (ls.getD i (0, 0)).2) from fun i hi => by
      rw [hoc i hi]; simp [List.getD, hi])
    have Mc := Lib.hid (show ∀ i, i < ls.length → w5.cell? ⟨mb, mo2 + i, none⟩ = some (.int .i64 (i : Int)) from fun i hi => by
      rw [hmc i hi]; simp [gi, firstI, hi])
    have Cc := Lib.hid (show ∀ i, i < ls.length → w5.cell? ⟨cb, co2 + i, none⟩ = some (.int .i64 (outC C i)) from fun i hi => by
      rw [hcc i hi]; simp [gi, hi])
    clear hlc hoc hmc hcc OV5 MV5 CV5
    have SAME := Lib.hid (fun i (hi : i < ls.length) => D.out.same hi)
    have UP := Lib.hid (fun i (hi : i + 1 < ls.length) => D.out.up hi)
    have FIT := Lib.hid (fun i k (hi : i < ls.length) (hk : k < ls.length) => D.out.fit hi hk)
    generalize hN : ls.length = N at *
    have HL := Lib.hid hN
    clear hN
    go_wp2_with fail
    go_loopw [15, 95] (fun mv iv wr => ∃ (i m : Nat), i ≤ N ∧ iv = .int .i64 i ∧ mv = .int .i64 (mostC C i) ∧ wr = w5.drewN m) (fun _ iv _ => N - (intOf iv).toNat)
    case atStart => exact ⟨0, 0, Nat.zero_le _, rfl, rfl, rfl⟩
    case round =>
      obtain ⟨i, m, hi, rfl, rfl, rfl⟩ := hrel
      by_cases hlt : i < N
      · have j1 : (i : Int) < (N : Int) := by omega
        have j0 : (0 : Int) ≤ (i : Int) := by omega
        have c1 := Lc.out i hlt
        have c2 := Oc.out i hlt
        have c3 := Mc.out i hlt
        have c4 := Cc.out i hlt
        obtain ⟨s1, s2⟩ := SAME.out i hlt
        have hms := most_next C i
        have hzn := outC_nonneg C i
        obtain ⟨y', hy'⟩ : ∃ y', mostC C (i + 1) = y' := ⟨_, rfl⟩
        obtain ⟨yy, hyy⟩ : ∃ yy, mostC C i = yy := ⟨_, rfl⟩
        obtain ⟨z, hZ⟩ : ∃ z, outC C i = z := ⟨_, rfl⟩
        obtain ⟨x, hXi⟩ : ∃ x, ls.getD i (0, 0) = x := ⟨_, rfl⟩
        rw [hXi] at c1 c2 s1 s2
        rw [hyy, hZ] at hms
        rw [hyy]
        rw [hZ] at c4 hzn
        have HY := Lib.hid hy'
        rw [hy'] at hms
        clear hyy hy'
        have hXH := Lib.hid hXi
        have hZH := Lib.hid hZ
        obtain ⟨x1, x2⟩ := x
        obtain ⟨hmax, hm1, hm2, hm3⟩ := hms
        have hw1 : IntKind.i64.wrap (yy + 1) = yy + 1 := IntWalk.i64_in _ ⟨by omega, by omega⟩
        have g3 : ¬ (z < 0) := by omega
        have g4 : ¬ (yy + 1 < z) := by omega
        have s1 : fcmp .eql .f32 (nrm .f32 x1) (nrm .f32 x1) = true := s1
        have s2 : fcmp .eql .f32 (nrm .f32 x2) (nrm .f32 x2) = true := s2
        clear hXi hZ hzn hm1 hm2 hm3
        by_cases hz : 0 < (i : Int)
        · obtain ⟨p, hp⟩ : ∃ p : Nat, i = p + 1 := ⟨i - 1, by omega⟩
          have q1 : IntKind.i64.wrap ((i : Int) - 1) = (p : Int) := by rw [IntWalk.i64_in _ ⟨by omega, by omega⟩]; omega
          have c5 := Oc.out p (by omega)
          have u0 := UP.out p (by omega)
          rw [← hp, hXH.out] at u0
          obtain ⟨v, hv⟩ : ∃ v, ls.getD p (0, 0) = v := ⟨_, rfl⟩
          rw [hv] at c5 u0
          obtain ⟨v1, v2⟩ := v
          have u1' : fcmp .lss .f32 (nrm .f32 x1) (nrm .f32 v1) = false := u0.1
          have u2' : fcmp .eql .f32 (nrm .f32 x1) (nrm .f32 v1) = false := u0.2.2
          have p0 : (0 : Int) ≤ (p : Int) := by omega
          have hz2 : 0 < i := by omega
          have p1 : (p : Int) < (N : Int) := by omega
          clear u0 hv hp
          go_wp2_with fail
          refine wp_region_v 44 (GD (0, 0)) (by kernel_rfl) (by kernel_rfl) ?_
          simp only [List.take_succ_cons, List.take_zero, List.drop_succ_cons, List.drop_zero]
          repeat (first | (apply wpV_det; (exact rfl); (intro nq; go_simp; rfl); (intro K hK; go_simp; refine hK.use ?_; clear hK K)) | (apply wpV_off; (exact rfl); (intro K hK; go_simp; refine hK.use ?_; clear hK K)))
          refine wpV_nil (fun nq => ?_)
          (try refine wpList_nil ?_)
          clear u1' u2' p0 p1 q1 c5
          have g1 : ¬ ((N : Int) ≤ (i : Int)) := by omega
          have g2 : ¬ ((i : Int) < 0) := by omega
          have g5 : ¬ (N ≤ i) := by omega
          clear hz hz2
          go_wp2_with fail
          refine wp_region_v 43 (GD (0, 0)) (by kernel_rfl) (by kernel_rfl) ?_
          simp only [List.take_succ_cons, List.take_zero, List.drop_succ_cons, List.drop_zero]
          have g2 : ¬ ((i : Int) < 0) := by omega
          have g3 : ¬ (z < 0) := by omega
          have g4 : ¬ (yy + 1 < z) := by omega
          have g5 : ¬ (N ≤ i) := by omega
          repeat (first | (apply wpV_det; (exact rfl); (intro nq; go_simp; rfl); (intro K hK; go_simp; refine hK.use ?_; clear hK K)) | (apply wpV_off; (exact rfl); (intro K hK; go_simp; refine hK.use ?_; clear hK K)))
          refine wpV_nil (fun nq2 => ?_)
          (try refine wpList_nil ?_)
          clear s1 s2 g1 g2 g5
          go_wp2_with fail
          go_loopw [17] (fun kv wy => ∃ (k m2 : Nat), k ≤ i ∧ kv = .int .i64 k ∧ wy = w5.drewN m2) (fun kv _ => i - (intOf kv).toNat)
          case atStart => exact ⟨0, _, Nat.zero_le _, rfl, rfl⟩
          case round =>
            obtain ⟨k, m2, hk, rfl, rfl⟩ := hrel
            by_cases hk2 : k < i
            · have d1 := c1
              have d2 := Lc.out k (by omega)
              have d3 := Cc.out k (by omega)
              have F1 := Lib.hid (FIT.out i k hlt (by omega))
              have H1 := Lib.hid (HX.out i k)
              have H2 := Lib.hid (HE.out i k hlt hk2)
              rw [hXH.out] at F1 H1
              obtain ⟨y, hY⟩ : ∃ y, ls.getD k (0, 0) = y := ⟨_, rfl⟩
              rw [hY] at d2 F1 H1
              clear hY
              obtain ⟨y1, y2⟩ := y
              rw [hZH.out] at H2
              obtain ⟨z2, hz2⟩ : ∃ z2, outC C k = z2 := ⟨_, rfl⟩
              rw [hz2] at d3 H2
              clear hz2
              obtain ⟨cl, hcl⟩ : ∃ cl, CL i k = cl := ⟨_, rfl⟩
              rw [hcl] at H1 H2
              clear hcl
              have k0 : (k : Int) < (i : Int) := by omega
              have k1 : (k : Int) < (N : Int) := by omega
              have k2 : (0 : Int) ≤ (k : Int) := by omega
              obtain ⟨DD, hDD⟩ : ∃ DD, subC (nc (x1, x2)) (nc (y1, y2)) = DD := ⟨_, rfl⟩
              have HDD := Lib.hid hDD
              rw [hDD] at F1 H1
              clear hDD
              rw [← HN.out] at H1
              have hcmp := H1.out.symm
              obtain ⟨FF, hFF⟩ : ∃ FF, longF DD = FF := ⟨_, rfl⟩
              have HFF := Lib.hid hFF
              rw [hFF] at hcmp
              clear hFF
              have H2f : cl = true → (z != z2) = false := fun h => by rw [H2.out h]; simp
              have H2F := Lib.hid H2f
              clear H2f
              cases cl
              · go_wp2_with fail
                refine wp_region_v 23 (GD DD) (by kernel_rfl) (by kernel_rfl) ?_
                simp only [List.take_succ_cons, List.take_zero, List.drop_succ_cons, List.drop_zero]
                repeat (apply wpV_det; (exact rfl); (intro nq; go_simp; rfl); (intro K hK; go_simp; refine hK.use ?_; clear hK K))
                (refine wpV_cadd .sub (.inr rfl) _ _ _ _ rfl _ _ _ _ rfl rfl rfl ?_; intro g1 g2 hg1 hg2; (intro K hK; go_simp; refine hK.use ?_; clear hK K))
                have Hg1 := Lib.hid (show nc (g1, g2) = DD by rw [← HDD.out]; exact Prod.ext hg1 hg2)
                clear hg1 hg2
                repeat (apply wpV_det; (exact rfl); (intro nq; go_simp; rfl); (intro K hK; go_simp; refine hK.use ?_; clear hK K))
                (apply wpV_call; (exact rfl); (intro nq; go_simp; first | exact ⟨rfl, rfl⟩ | rfl); (intro nq; refine (longOf_spec (g1, g2) (Lib.hid (by rw [Hg1.out]; exact F1.out)) _).mono ?_; rintro e w' ⟨a, mm, rfl, ha, rfl⟩; exact ⟨_, rfl, ⟨a, rfl, ha.trans (congrArg longF Hg1.out)⟩, nq + mm, by simp [Nat.add_assoc]⟩); (rintro u ⟨ra, rfl, hra0⟩); (have hra : nrm .f32 ra = FF := hra0.trans HFF.out); clear hra0; (intro K hK; go_simp; refine hK.use ?_; clear hK K))
                repeat (first | (apply wpV_det; (exact rfl); (intro nq; go_simp; rfl); (intro K hK; go_simp; refine hK.use ?_; clear hK K)) | (apply wpV_off; (exact rfl); (intro K hK; go_simp; refine hK.use ?_; clear hK K)))
                refine wpV_nil (fun nq3 => ?_)
                (try refine wpList_nil ?_)
                clear hra d1 d2 d3 hcmp
                go_wp2_with fail
                go_roundw
                case rel => exact ⟨k + 1, _, by omega, by go_num, rfl⟩
                case measure => simp [intOf]; omega
              · have H2g := H2F.out rfl
                go_wp2_with fail
                refine wp_region_v 23 (GD DD) (by kernel_rfl) (by kernel_rfl) ?_
                simp only [List.take_succ_cons, List.take_zero, List.drop_succ_cons, List.drop_zero]
                repeat (apply wpV_det; (exact rfl); (intro nq; go_simp; rfl); (intro K hK; go_simp; refine hK.use ?_; clear hK K))
                (refine wpV_cadd .sub (.inr rfl) _ _ _ _ rfl _ _ _ _ rfl rfl rfl ?_; intro g1 g2 hg1 hg2; (intro K hK; go_simp; refine hK.use ?_; clear hK K))
                have Hg1 := Lib.hid (show nc (g1, g2) = DD by rw [← HDD.out]; exact Prod.ext hg1 hg2)
                clear hg1 hg2
                repeat (apply wpV_det; (exact rfl); (intro nq; go_simp; rfl); (intro K hK; go_simp; refine hK.use ?_; clear hK K))
                (apply wpV_call; (exact rfl); (intro nq; go_simp; first | exact ⟨rfl, rfl⟩ | rfl); (intro nq; refine (longOf_spec (g1, g2) (Lib.hid (by rw [Hg1.out]; exact F1.out)) _).mono ?_; rintro e w' ⟨a, mm, rfl, ha, rfl⟩; exact ⟨_, rfl, ⟨a, rfl, ha.trans (congrArg longF Hg1.out)⟩, nq + mm, by simp [Nat.add_assoc]⟩); (rintro u ⟨ra, rfl, hra0⟩); (have hra : nrm .f32 ra = FF := hra0.trans HFF.out); clear hra0; (intro K hK; go_simp; refine hK.use ?_; clear hK K))
                repeat (first | (apply wpV_det; (exact rfl); (intro nq; go_simp; rfl); (intro K hK; go_simp; refine hK.use ?_; clear hK K)) | (apply wpV_off; (exact rfl); (intro K hK; go_simp; refine hK.use ?_; clear hK K)))
                refine wpV_nil (fun nq3 => ?_)
                (try refine wpList_nil ?_)
                clear hra d1 d2 d3 hcmp
                go_wp2_with fail
                go_roundw
                case rel => exact ⟨k + 1, _, by omega, by go_num, rfl⟩
                case measure => simp [intOf]; omega
            · (have hik : i = k := by omega); subst hik
              have MX := Lib.hid hmax
              clear hmax
              go_wp2_with fail
              go_roundw
              case rel => exact ⟨i + 1, _, by omega, by go_num, by rw [HY.out, ← MX.out], rfl⟩
              case measure => simp [intOf]; omega
        · have hz2 : ¬ (0 < i) := by omega
          go_wp2_with fail
          refine wp_region_v 44 (GD (0, 0)) (by kernel_rfl) (by kernel_rfl) ?_
          simp only [List.take_succ_cons, List.take_zero, List.drop_succ_cons, List.drop_zero]
          repeat (first | (apply wpV_det; (exact rfl); (intro nq; go_simp; rfl); (intro K hK; go_simp; refine hK.use ?_; clear hK K)) | (apply wpV_off; (exact rfl); (intro K hK; go_simp; refine hK.use ?_; clear hK K)))
          refine wpV_nil (fun nq => ?_)
          (try refine wpList_nil ?_)
          have g1 : ¬ ((N : Int) ≤ (i : Int)) := by omega
          have g2 : ¬ ((i : Int) < 0) := by omega
          have g5 : ¬ (N ≤ i) := by omega
          clear hz hz2
          go_wp2_with fail
          refine wp_region_v 43 (GD (0, 0)) (by kernel_rfl) (by kernel_rfl) ?_
          simp only [List.take_succ_cons, List.take_zero, List.drop_succ_cons, List.drop_zero]
          have g2 : ¬ ((i : Int) < 0) := by omega
          have g3 : ¬ (z < 0) := by omega
          have g4 : ¬ (yy + 1 < z) := by omega
          have g5 : ¬ (N ≤ i) := by omega
          repeat (first | (apply wpV_det; (exact rfl); (intro nq; go_simp; rfl); (intro K hK; go_simp; refine hK.use ?_; clear hK K)) | (apply wpV_off; (exact rfl); (intro K hK; go_simp; refine hK.use ?_; clear hK K)))
          refine wpV_nil (fun nq2 => ?_)
          (try refine wpList_nil ?_)
          clear s1 s2 g1 g2 g5
          go_wp2_with fail
          go_loopw [17] (fun kv wy => ∃ (k m2 : Nat), k ≤ i ∧ kv = .int .i64 k ∧ wy = w5.drewN m2) (fun kv _ => i - (intOf kv).toNat)
          case atStart => exact ⟨0, _, Nat.zero_le _, rfl, rfl⟩
          case round =>
            obtain ⟨k, m2, hk, rfl, rfl⟩ := hrel
            by_cases hk2 : k < i
            · have d1 := c1
              have d2 := Lc.out k (by omega)
              have d3 := Cc.out k (by omega)
              have F1 := Lib.hid (FIT.out i k hlt (by omega))
              have H1 := Lib.hid (HX.out i k)
              have H2 := Lib.hid (HE.out i k hlt hk2)
              rw [hXH.out] at F1 H1
              obtain ⟨y, hY⟩ : ∃ y, ls.getD k (0, 0) = y := ⟨_, rfl⟩
              rw [hY] at d2 F1 H1
              clear hY
              obtain ⟨y1, y2⟩ := y
              rw [hZH.out] at H2
              obtain ⟨z2, hz2⟩ : ∃ z2, outC C k = z2 := ⟨_, rfl⟩
              rw [hz2] at d3 H2
              clear hz2
              obtain ⟨cl, hcl⟩ : ∃ cl, CL i k = cl := ⟨_, rfl⟩
              rw [hcl] at H1 H2
              clear hcl
              have k0 : (k : Int) < (i : Int) := by omega
              have k1 : (k : Int) < (N : Int) := by omega
              have k2 : (0 : Int) ≤ (k : Int) := by omega
              obtain ⟨DD, hDD⟩ : ∃ DD, subC (nc (x1, x2)) (nc (y1, y2)) = DD := ⟨_, rfl⟩
              have HDD := Lib.hid hDD
              rw [hDD] at F1 H1
              clear hDD
              rw [← HN.out] at H1
              have hcmp := H1.out.symm
              obtain ⟨FF, hFF⟩ : ∃ FF, longF DD = FF := ⟨_, rfl⟩
              have HFF := Lib.hid hFF
              rw [hFF] at hcmp
              clear hFF
              have H2f : cl = true → (z != z2) = false := fun h => by rw [H2.out h]; simp
              have H2F := Lib.hid H2f
              clear H2f
              cases cl
              · go_wp2_with fail
                refine wp_region_v 23 (GD DD) (by kernel_rfl) (by kernel_rfl) ?_
                simp only [List.take_succ_cons, List.take_zero, List.drop_succ_cons, List.drop_zero]
                repeat (apply wpV_det; (exact rfl); (intro nq; go_simp; rfl); (intro K hK; go_simp; refine hK.use ?_; clear hK K))
                (refine wpV_cadd .sub (.inr rfl) _ _ _ _ rfl _ _ _ _ rfl rfl rfl ?_; intro g1 g2 hg1 hg2; (intro K hK; go_simp; refine hK.use ?_; clear hK K))
                have Hg1 := Lib.hid (show nc (g1, g2) = DD by rw [← HDD.out]; exact Prod.ext hg1 hg2)
                clear hg1 hg2
                repeat (apply wpV_det; (exact rfl); (intro nq; go_simp; rfl); (intro K hK; go_simp; refine hK.use ?_; clear hK K))
                (apply wpV_call; (exact rfl); (intro nq; go_simp; first | exact ⟨rfl, rfl⟩ | rfl); (intro nq; refine (longOf_spec (g1, g2) (Lib.hid (by rw [Hg1.out]; exact F1.out)) _).mono ?_; rintro e w' ⟨a, mm, rfl, ha, rfl⟩; exact ⟨_, rfl, ⟨a, rfl, ha.trans (congrArg longF Hg1.out)⟩, nq + mm, by simp [Nat.add_assoc]⟩); (rintro u ⟨ra, rfl, hra0⟩); (have hra : nrm .f32 ra = FF := hra0.trans HFF.out); clear hra0; (intro K hK; go_simp; refine hK.use ?_; clear hK K))
                repeat (first | (apply wpV_det; (exact rfl); (intro nq; go_simp; rfl); (intro K hK; go_simp; refine hK.use ?_; clear hK K)) | (apply wpV_off; (exact rfl); (intro K hK; go_simp; refine hK.use ?_; clear hK K)))
                refine wpV_nil (fun nq3 => ?_)
                (try refine wpList_nil ?_)
                clear hra d1 d2 d3 hcmp
                go_wp2_with fail
                go_roundw
                case rel => exact ⟨k + 1, _, by omega, by go_num, rfl⟩
                case measure => simp [intOf]; omega
              · have H2g := H2F.out rfl
                go_wp2_with fail
                refine wp_region_v 23 (GD DD) (by kernel_rfl) (by kernel_rfl) ?_
                simp only [List.take_succ_cons, List.take_zero, List.drop_succ_cons, List.drop_zero]
                repeat (apply wpV_det; (exact rfl); (intro nq; go_simp; rfl); (intro K hK; go_simp; refine hK.use ?_; clear hK K))
                (refine wpV_cadd .sub (.inr rfl) _ _ _ _ rfl _ _ _ _ rfl rfl rfl ?_; intro g1 g2 hg1 hg2; (intro K hK; go_simp; refine hK.use ?_; clear hK K))
                have Hg1 := Lib.hid (show nc (g1, g2) = DD by rw [← HDD.out]; exact Prod.ext hg1 hg2)
                clear hg1 hg2
                repeat (apply wpV_det; (exact rfl); (intro nq; go_simp; rfl); (intro K hK; go_simp; refine hK.use ?_; clear hK K))
                (apply wpV_call; (exact rfl); (intro nq; go_simp; first | exact ⟨rfl, rfl⟩ | rfl); (intro nq; refine (longOf_spec (g1, g2) (Lib.hid (by rw [Hg1.out]; exact F1.out)) _).mono ?_; rintro e w' ⟨a, mm, rfl, ha, rfl⟩; exact ⟨_, rfl, ⟨a, rfl, ha.trans (congrArg longF Hg1.out)⟩, nq + mm, by simp [Nat.add_assoc]⟩); (rintro u ⟨ra, rfl, hra0⟩); (have hra : nrm .f32 ra = FF := hra0.trans HFF.out); clear hra0; (intro K hK; go_simp; refine hK.use ?_; clear hK K))
                repeat (first | (apply wpV_det; (exact rfl); (intro nq; go_simp; rfl); (intro K hK; go_simp; refine hK.use ?_; clear hK K)) | (apply wpV_off; (exact rfl); (intro K hK; go_simp; refine hK.use ?_; clear hK K)))
                refine wpV_nil (fun nq3 => ?_)
                (try refine wpList_nil ?_)
                clear hra d1 d2 d3 hcmp
                go_wp2_with fail
                go_roundw
                case rel => exact ⟨k + 1, _, by omega, by go_num, rfl⟩
                case measure => simp [intOf]; omega
            · (have hik : i = k := by omega); subst hik
              have MX := Lib.hid hmax
              clear hmax
              go_wp2_with fail
              go_roundw
              case rel => exact ⟨i + 1, _, by omega, by go_num, by rw [HY.out, ← MX.out], rfl⟩
              case measure => simp [intOf]; omega
      · (have hiN : N = i := by omega); subst hiN
        have LV6 := Lib.hid (LV5.out.below (drewN_below w5 m))
        have Hb6 := Lib.hid (Hb5.out.below (drewN_below w5 m))
        have B6 := Lib.hid (below_drewN B5.out m)
        have hNc : N ≤ cap := hcp.1
        have hCm : cap ≤ maxLen := hcp.2
        clear LV5 Hb5 B5 Lc Oc Mc Cc SAME UP FIT HX HE HN ht17
        generalize World.drewN w5 m = w6 at *
        go_wp2_with fail
        (go_at_call 5; ((with_reducible refine (b10At_any _ b 2 (min (N : Int) 3) _ Hb6.out (by omega) (by omega) (by omega) (by omega)).mono ?_); rintro e w' ⟨z2, rfl, hz20, hz21, rfl⟩))
        obtain ⟨M, hM⟩ : ∃ M : Nat, (M : Int) = 1 + z2 := ⟨(1 + z2).toNat, by omega⟩
        have qM : IntKind.i64.wrap (1 + z2) = (M : Int) := by rw [IntWalk.i64_in _ ⟨by omega, by omega⟩, hM]
        have hM1 : 1 ≤ M := by omega
        have hM3 : M ≤ 3 := by omega
        have hMN : M ≤ N := by omega
        have hMc : M ≤ cap := by omega
        clear hM hz20 hz21
        have DT := Lib.hid (D.out.take hM1 (by rw [HL.out]; exact hMN))
        have hTl : (ls.take M).length = M := by rw [List.length_take, HL.out]; omega
        have LT := Lib.hid (show RdV w6 (.slice (some ⟨lb, lo, none⟩) M cap) (cx (ls.take M)) by
          have := RdV.take (n := M) (c := cap) LV6.out (by rw [cx_length, HL.out]; exact hMN) hMc hCm
          rwa [show (cx ls).take M = cx (ls.take M) by rw [cx, cx, List.map_take]] at this)
        have HP := DT.out.poly (by omega)
        have PS := polyOfRoots_spec _ (ls.take M) w6 LT.out (by omega) (by omega) DT.out.allFin (Lib.hid HP.1)
        obtain ⟨_, F, hF, hroot, hF1, hF4, hS⟩ := HP
        rw [hF] at PS
        have PS := Lib.hid PS
        have HR := Lib.hid hroot
        have HS := Lib.hid hS
        have HF := Lib.hid (show 1 ≤ F.length ∧ F.length ≤ 4 from ⟨hF1, hF4⟩)
        clear hF hroot hS hTl DT LT hF1 hF4
        have j1 : (M : Int) ≤ (cap : Int) := by omega
        go_wp2_with fail
        (go_at_call 11; ((with_reducible refine (PS.out).mono ?_); rintro e w7 ⟨pv, qs, rfl, hqs, ho7, hb7⟩))
        have hqs2 : qs.map nc = F := hqs
        subst hqs2
        clear hqs
        have HF2 := Lib.hid (show 1 ≤ qs.length ∧ qs.length ≤ 17 by have := HF.out; rw [List.length_map] at this; omega)
        have LV7 := Lib.hid (LV6.out.below hb7)
        have Hb7 := Lib.hid (Hb6.out.below hb7)
        have B7 := Lib.hid (B6.out.trans (hb7.mono B6.out.size))
        have PV7 := Lib.hid ho7.rd
        obtain ⟨po, pcap, rfl, _⟩ := PV7.out.shape
        rw [cx_length] at PV7 ⊢
        clear ho7 hb7 LV6 Hb6 B6 PS HF
        go_upto_region 31 with fail
        generalize hg8 : World.alloc _ _ = w8
        have Hg8 := Lib.hid hg8
        clear hg8
        have hB8 : Below w7.heap.size w7 w8 := by rw [← Hg8.out]; (repeat' (first | (with_reducible exact Below.refl _ _) | (with_reducible assumption) | (with_reducible refine Below.alloc ?_ ?_ _) | (with_reducible refine Below.setCell ?_ ?_ _) | (with_reducible refine Below.drew ?_) | (with_reducible refine Below.via (by assumption) ?_ ?_) | go_size))
        have x8 : w8.cell? ⟨w7.heap.size, 0, none⟩ = some (.slice po qs.length pcap) := by rw [← Hg8.out]; go_simp
        have X8 := Lib.hid x8
        have LV8 := Lib.hid (LV7.out.below hB8)
        have Hb8 := Lib.hid (Hb7.out.below hB8)
        have B8 := Lib.hid (B7.out.trans (hB8.mono B7.out.size))
        have PV8 := Lib.hid (PV7.out.below hB8)
        clear Hg8 hB8 LV7 Hb7 B7 PV7 x8
        generalize w7.heap.size = a18 at *
        have HG := grid_zero (qs.map nc) (ls.map nc)
        have GS := Lib.hid (grid_safe (F := qs.map nc) (L := ls.map nc) HS.out (fun j hj => by rw [getD_nc]; exact D.out.fin (by rw [List.length_map] at hj; exact hj)))
        have SF := Lib.hid (HS.out _ lo_pt)
        have L16 := Lib.hid (show ls.length ≤ 16 by have := D.out.h6; omega)
        have GL : (gridF (qs.map nc) (ls.map nc) (nc loW) (subC (nc hiW) (nc loW))).length = 16 := by simp [gridF]
        have BI := fun w => basin_impl (.slice po qs.length pcap) (.slice (some ⟨lb, lo, none⟩) N cap) qs ls loW 6 w
        have BO := fun w => basinOf_spec (.slice po qs.length pcap) (.slice (some ⟨lb, lo, none⟩) N cap) qs ls loW w
        rw [basin_swap] at BI
        obtain ⟨BF, hBF⟩ : ∃ BF, basinF (qs.map nc) (ls.map nc) (nc loW) 6 = BF := ⟨_, rfl⟩
        rw [hBF] at BI BO HG
        have BI := Lib.hid (show ∀ (w : World), RdV w (.slice po qs.length pcap) (cx qs) → RdV w (.slice (some ⟨lb, lo, none⟩) N cap) (cx ls) → Calls Try.prog 14 #[.agg #[.slice po qs.length pcap], .slice (some ⟨lb, lo, none⟩) N cap, .complex .f32 3221225472 3221487616, .int .i64 6] w (RetIB BF w) from fun w r1 r2 =>
          BI w r1 HF2.out.1 HF2.out.2 r2 D.out.h1 L16.out D.out.allFin HR.out lo_fin (by omega) (Lib.hid SF.out.1) (Lib.hid fun k hk => by rw [getD_nc]; exact dist_fit SF.out.2.1 (D.out.fin hk).1 SF.out.2.2 (D.out.fin hk).2))
        have BO := Lib.hid (show ∀ (w : World), RdV w (.slice po qs.length pcap) (cx qs) → RdV w (.slice (some ⟨lb, lo, none⟩) N cap) (cx ls) → Calls Try.prog 15 #[.agg #[.slice po qs.length pcap], .slice (some ⟨lb, lo, none⟩) N cap, .complex .f32 3221225472 3221487616, .int .i64 6] w (RetIB BF w) from fun w r1 r2 =>
          BO w r1 HF2.out.1 HF2.out.2 r2 D.out.h1 L16.out D.out.allFin HR.out lo_fin (Lib.hid SF.out.1) (Lib.hid fun k hk => by rw [getD_nc]; exact dist_fit (D.out.fin hk).1 SF.out.2.1 (D.out.fin hk).2 SF.out.2.2))
        have GR := Lib.hid (fun w r1 r2 => grid_spec (.slice po qs.length pcap) (.slice (some ⟨lb, lo, none⟩) N cap) qs ls loW hiW 1 w r1 HF2.out.1 HF2.out.2 r2 D.out.h1 L16.out D.out.allFin HR.out box_ok (by omega) (by omega) GS)
        have GI := Lib.hid (fun wk w r1 r2 (h1 : 1 ≤ wk) (h2 : wk ≤ 8) => grid_impl (.slice po qs.length pcap) (.slice (some ⟨lb, lo, none⟩) N cap) qs ls loW hiW wk w r1 HF2.out.1 HF2.out.2 r2 D.out.h1 L16.out D.out.allFin HR.out box_ok h1 h2 GS)
        obtain ⟨G, hG⟩ : ∃ G, gridF (qs.map nc) (ls.map nc) (nc loW) (subC (nc hiW) (nc loW)) = G := ⟨_, rfl⟩
        rw [hG] at GR GI HG GL
        have hGn : G ≠ [] := by intro h; rw [h] at GL; simp at GL
        have HGN := Lib.hid hGn
        have HG2 := Lib.hid HG
        clear hBF hG HG GS SF HS HR HF2 D HL L16 hGn
        have x8 := X8.out
        go_wp2_with fail
        (go_at_call 12; ((with_reducible refine (GR.out _ PV8.out LV8.out).mono ?_); rintro e w9 ⟨gv, rfl, ho9, hb9⟩))
        have GV9 := Lib.hid ho9.rd
        have LV9 := Lib.hid (LV8.out.below hb9)
        have PV9 := Lib.hid (PV8.out.below hb9)
        have Hb9 := Lib.hid (Hb8.out.below hb9)
        have B9 := Lib.hid (B8.out.trans (hb9.mono B8.out.size))
        have x9 : w9.cell? ⟨a18, 0, none⟩ = some (.slice po qs.length pcap) := (hb9.cell (p := ⟨a18, 0, none⟩) (World.block_lt_of_cell? _ _ X8.out)).trans X8.out
        clear ho9 hb9 LV8 PV8 Hb8 B8 X8 x8
        obtain ⟨go, gcap, rfl, _⟩ := GV9.out.shape
        rw [gi_length, GL] at GV9 ⊢
        go_wp2_with fail
        refine wp_region_held_drew (S := fun w' => w'.cell? ⟨a18, 0, none⟩ = some (.slice po qs.length pcap)) (by kernel_rfl) (by go_simp) (fun hHeld => ?_)
        refine wpAnyH_take (i := 0) (v := ?_) rfl (by kernel_rfl) (by kernel_rfl) (by kernel_rfl) (fun _ _ _ h => h) (Or.inl ⟨by rfl, ?_⟩) (by assumption) ?_
        rotate_left 1
        (intro w hSw; (try dsimp only at hSw); go_simp; (try with_reducible rfl))
        (try simp only [List.getElem_toArray, List.getElem_cons_succ, List.getElem_cons_zero, Act.put, List.setIfInBounds_toArray, List.set_cons_zero, List.set_cons_succ])
        refine wpAnyH_take (i := 1) (v := ?_) rfl (by kernel_rfl) (by kernel_rfl) (by kernel_rfl) (fun _ _ _ h => h) (Or.inl ⟨by rfl, ?_⟩) (by assumption) ?_
        rotate_left 1
        (intro w hSw; (try dsimp only at hSw); go_simp; (try with_reducible rfl))
        (try simp only [List.getElem_toArray, List.getElem_cons_succ, List.getElem_cons_zero, Act.put, List.setIfInBounds_toArray, List.set_cons_zero, List.set_cons_succ])
        refine wpAnyH_take (i := 2) (v := ?_) rfl (by kernel_rfl) (by kernel_rfl) (by kernel_rfl) (fun _ _ _ h => h) (Or.inl ⟨by rfl, ?_⟩) (by assumption) ?_
        rotate_left 1
        (intro w hSw; (try dsimp only at hSw); go_simp; (try with_reducible rfl))
        (try simp only [List.getElem_toArray, List.getElem_cons_succ, List.getElem_cons_zero, Act.put, List.setIfInBounds_toArray, List.set_cons_zero, List.set_cons_succ])
        refine wpAnyH_take (i := 3) (v := ?_) rfl (by kernel_rfl) (by kernel_rfl) (by kernel_rfl) (fun _ _ _ h => h) (Or.inl ⟨by rfl, ?_⟩) (by assumption) ?_
        rotate_left 1
        (intro w hSw; (try dsimp only at hSw); go_simp; (try with_reducible rfl))
        (try simp only [List.getElem_toArray, List.getElem_cons_succ, List.getElem_cons_zero, Act.put, List.setIfInBounds_toArray, List.set_cons_zero, List.set_cons_succ])
        refine wpAnyH_take (i := 4) (v := ?_) rfl (by kernel_rfl) (by kernel_rfl) (by kernel_rfl) (fun _ _ _ h => h) (Or.inl ⟨by rfl, ?_⟩) (by assumption) ?_
        rotate_left 1
        (intro w hSw; (try dsimp only at hSw); go_simp; (try with_reducible rfl))
        (try simp only [List.getElem_toArray, List.getElem_cons_succ, List.getElem_cons_zero, Act.put, List.setIfInBounds_toArray, List.set_cons_zero, List.set_cons_succ])
        refine wpAnyH_ready (rs := [5]) (by kernel_rfl) (by simp) ?_
        refine AllReadyH.cons rfl (fun K5 hK5 => ?_) ?_
        · go_simp
          (go_at_call 5; ((with_reducible refine (b10At_any _ b 3 8 _ (Hb9.out.below (by (repeat' (first | (with_reducible exact Below.refl _ _) | (with_reducible assumption) | (with_reducible refine Below.alloc ?_ ?_ _) | (with_reducible refine Below.setCell ?_ ?_ _) | (with_reducible refine Below.drew ?_) | (with_reducible refine Below.via (by assumption) ?_ ?_) | go_size)))) (by omega) (by omega) (by omega) (by omega)).mono ?_); rintro e w' ⟨z3, rfl, hz30, hz31, rfl⟩)); (have qz : IntKind.i64.wrap (1 + z3) = 1 + z3 := IntWalk.i64_in _ ⟨by omega, by omega⟩)
          (try go_wp2_with fail)
          refine hK5.out _ _ ?_ (fun hHeld5 => ?_)
          · go_simp
          clear hK5 K5
          (try simp only [List.getElem_toArray, List.getElem_cons_succ, List.getElem_cons_zero, Act.put, List.setIfInBounds_toArray, List.set_cons_zero, List.set_cons_succ])
          refine wpAnyH_take (i := 6) (v := ?_) rfl (by kernel_rfl) (by kernel_rfl) (by kernel_rfl) (fun _ _ _ h => h) (Or.inl ⟨by rfl, ?_⟩) (by assumption) ?_
          rotate_left 1
          (intro w hSw; (try dsimp only at hSw); go_simp; (try with_reducible rfl))
          (try simp only [List.getElem_toArray, List.getElem_cons_succ, List.getElem_cons_zero, Act.put, List.setIfInBounds_toArray, List.set_cons_zero, List.set_cons_succ])
          refine wpAnyH_ready (rs := [7]) (by kernel_rfl) (by simp) ?_
          refine AllReadyH.cons rfl (fun K7 hK7 => ?_) ?_
          · go_simp
            (go_at_call 13; ((with_reducible refine (GI.out _ _ (PV9.out.below (by (repeat' (first | (with_reducible exact Below.refl _ _) | (with_reducible assumption) | (with_reducible refine Below.alloc ?_ ?_ _) | (with_reducible refine Below.setCell ?_ ?_ _) | (with_reducible refine Below.drew ?_) | (with_reducible refine Below.via (by assumption) ?_ ?_) | go_size)))) (LV9.out.below (by (repeat' (first | (with_reducible exact Below.refl _ _) | (with_reducible assumption) | (with_reducible refine Below.alloc ?_ ?_ _) | (with_reducible refine Below.setCell ?_ ?_ _) | (with_reducible refine Below.drew ?_) | (with_reducible refine Below.via (by assumption) ?_ ?_) | go_size)))) (by omega) (by omega)).mono ?_); rintro e w11 ⟨iv, rfl, ho11, hb11⟩))
            have hb11' : Below w9.heap.size w9 w11 := Below.trans (show Below w9.heap.size w9 _ by (repeat' (first | (with_reducible exact Below.refl _ _) | (with_reducible assumption) | (with_reducible refine Below.alloc ?_ ?_ _) | (with_reducible refine Below.setCell ?_ ?_ _) | (with_reducible refine Below.drew ?_) | (with_reducible refine Below.via (by assumption) ?_ ?_) | go_size))) hb11
            have GI11 := Lib.hid ho11.rd
            have GV11 := Lib.hid (GV9.out.below hb11')
            have LV11 := Lib.hid (LV9.out.below hb11')
            have PV11 := Lib.hid (PV9.out.below hb11')
            have B11 := Lib.hid (B9.out.trans (hb11'.mono B9.out.size))
            have x11 : w11.cell? ⟨a18, 0, none⟩ = some (.slice po qs.length pcap) := (hb11'.cell (p := ⟨a18, 0, none⟩) (World.block_lt_of_cell? _ _ x9)).trans x9
            clear ho11 hb11 hb11' GV9 LV9 PV9 Hb9 B9 GR GI

            (try go_wp2_with fail)
            refine hK7.out _ _ ?_ (fun hHeld7 => ?_)
            · exact x11
            clear hK7 K7
            (try simp only [List.getElem_toArray, List.getElem_cons_succ, List.getElem_cons_zero, Act.put, List.setIfInBounds_toArray, List.set_cons_zero, List.set_cons_succ])
            refine wpAnyH_take (i := 8) (v := ?_) rfl (by kernel_rfl) (by kernel_rfl) (by kernel_rfl) (fun _ _ _ h => h) (Or.inl ⟨by rfl, ?_⟩) (by assumption) ?_
            rotate_left 1
            (intro w hSw; (try dsimp only at hSw); go_simp; (try with_reducible rfl))
            (try simp only [List.getElem_toArray, List.getElem_cons_succ, List.getElem_cons_zero, Act.put, List.setIfInBounds_toArray, List.set_cons_zero, List.set_cons_succ])
            refine wpAnyH_take (i := 9) (v := ?_) rfl (by kernel_rfl) (by kernel_rfl) (by kernel_rfl) (fun _ _ _ h => h) (Or.inl ⟨by rfl, ?_⟩) (by assumption) ?_
            rotate_left 1
            (intro w hSw; (try dsimp only at hSw); go_simp; (try with_reducible rfl))
            (try simp only [List.getElem_toArray, List.getElem_cons_succ, List.getElem_cons_zero, Act.put, List.setIfInBounds_toArray, List.set_cons_zero, List.set_cons_succ])
            refine wpAnyH_take (i := 10) (v := ?_) rfl (by kernel_rfl) (by kernel_rfl) (by kernel_rfl) (fun _ _ _ h => h) (Or.inl ⟨by rfl, ?_⟩) (by assumption) ?_
            rotate_left 1
            (intro w hSw; (try dsimp only at hSw); go_simp; (try with_reducible rfl))
            (try simp only [List.getElem_toArray, List.getElem_cons_succ, List.getElem_cons_zero, Act.put, List.setIfInBounds_toArray, List.set_cons_zero, List.set_cons_succ])
            refine wpAnyH_take (i := 11) (v := ?_) rfl (by kernel_rfl) (by kernel_rfl) (by kernel_rfl) (fun _ _ _ h => h) (Or.inl ⟨by rfl, ?_⟩) (by assumption) ?_
            rotate_left 1
            (intro w hSw; (try dsimp only at hSw); go_simp; (try with_reducible rfl))
            (try simp only [List.getElem_toArray, List.getElem_cons_succ, List.getElem_cons_zero, Act.put, List.setIfInBounds_toArray, List.set_cons_zero, List.set_cons_succ])
            refine wpAnyH_take (i := 12) (v := ?_) rfl (by kernel_rfl) (by kernel_rfl) (by kernel_rfl) (fun _ _ _ h => h) (Or.inl ⟨by rfl, ?_⟩) (by assumption) ?_
            rotate_left 1
            (intro w hSw; (try dsimp only at hSw); go_simp; (try with_reducible rfl))
            (try simp only [List.getElem_toArray, List.getElem_cons_succ, List.getElem_cons_zero, Act.put, List.setIfInBounds_toArray, List.set_cons_zero, List.set_cons_succ])
            refine wpAnyH_done (by kernel_rfl) ?_ _
            obtain ⟨io, icap, rfl, _⟩ := GI11.out.shape
            rw [gi_length, GL] at GI11 ⊢
            obtain ⟨gb, gof, gc2, hq, hgb, _, hgc⟩ := GI11.out.open (by rw [← List.length_pos_iff, gi_length, GL]; decide)
            simp only [Value.slice.injEq, true_and] at hq
            obtain ⟨rfl, hxx⟩ := hq
            clear hxx
            have HGC := Lib.hid (show w11.cell? ⟨gb, gof, none⟩ = some (.int .i64 (G.getD 0 0)) by
              have := hgc 0 (by rw [gi_length, GL]; decide)
              rw [gi_get (by rw [GL]; decide)] at this
              exact this)
            clear hgc
            go_wp2_with fail
            (go_at_call 14; ((with_reducible refine (BI.out _ PV11.out LV11.out).mono ?_); rintro e w12 ⟨rfl, hb12⟩))
            have GI12 := Lib.hid (GI11.out.below hb12)
            have GV12 := Lib.hid (GV11.out.below hb12)
            have LV12 := Lib.hid (LV11.out.below hb12)
            have PV12 := Lib.hid (PV11.out.below hb12)
            have B12 := Lib.hid (B11.out.trans (hb12.mono B11.out.size))
            have x12 : w12.cell? ⟨a18, 0, none⟩ = some (.slice po qs.length pcap) := (hb12.cell (p := ⟨a18, 0, none⟩) (World.block_lt_of_cell? _ _ x11)).trans x11
            have c12 := Lib.hid ((hb12.cell (p := ⟨gb, gof, none⟩) hgb).trans HGC.out)
            clear hb12 GI11 GV11 LV11 PV11 B11 x11 HGC hgb
            go_wp2_with fail
            (go_at_call 15; ((with_reducible refine (BO.out _ PV12.out LV12.out).mono ?_); rintro e w13 ⟨rfl, hb13⟩))
            have GI13 := Lib.hid (GI12.out.below hb13)
            have GV13 := Lib.hid (GV12.out.below hb13)
            have B13 := Lib.hid (B12.out.trans (hb13.mono B12.out.size))
            have c13 := Lib.hid ((hb13.cell (p := ⟨gb, gof, none⟩) (World.block_lt_of_cell? _ _ c12.out)).trans c12.out)
            clear hb13 GI12 GV12 LV12 PV12 B12 x12 c12 BI BO
            obtain ⟨q, c⟩ := BF
            have hG0 := HG2.out
            clear HG2
            cases c
            · have hG1 : G.getD 0 0 = -1 := hG0
              rw [hG1] at c13
              clear hG0 hG1
              go_wp2_with fail
              (go_at_call 16; ((with_reducible refine (b10Ints_same _ _ G _ GI13.out GV13.out HGN.out (by omega)).mono ?_); rintro e w14 ⟨rfl, hb14⟩))
              have c14 : w14.cell? ⟨gb, gof, none⟩ = some (.int .i64 (-1)) := (hb14.cell (p := ⟨gb, gof, none⟩) (World.block_lt_of_cell? _ _ c13.out)).trans c13.out
              have B14 := Lib.hid (B13.out.trans (hb14.mono B13.out.size))
              clear hb14 GI13 GV13 B13 c13
              go_wp2_with fail
              go_ret
              exact ⟨rfl, B14.out⟩
            · have hG1 : G.getD 0 0 = (q : Int) := hG0
              rw [hG1] at c13
              clear hG0 hG1
              go_wp2_with fail
              (go_at_call 16; ((with_reducible refine (b10Ints_same _ _ G _ GI13.out GV13.out HGN.out (by omega)).mono ?_); rintro e w14 ⟨rfl, hb14⟩))
              have c14 : w14.cell? ⟨gb, gof, none⟩ = some (.int .i64 (q : Int)) := (hb14.cell (p := ⟨gb, gof, none⟩) (World.block_lt_of_cell? _ _ c13.out)).trans c13.out
              have B14 := Lib.hid (B13.out.trans (hb14.mono B13.out.size))
              clear hb14 GI13 GV13 B13 c13
              go_wp2_with fail
              go_ret
              exact ⟨rfl, B14.out⟩
          exact AllReadyH.nil
        exact AllReadyH.nil

end Go.Proofs.Ytalfkkagbajjcaa
