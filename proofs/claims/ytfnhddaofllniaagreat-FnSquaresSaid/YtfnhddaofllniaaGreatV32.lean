/- Roots that are followed from one polynomial to another, of the reference. Conditions: 4 stages of 3 steps; the polynomials between have ps many terms, roots; every step is safe. -/
import Derived.Test.YtfnhddaofllniaaGreatV31
import Derived.Test.YtfnhddaofllniaaGreatV21
import Derived.Deep.RegionHeld3
import Derived.Deep.DeepCutAuto
namespace Go.Proofs.YtfnhddaofllniaaGreat
open Go Go.RowKit
set_option linter.unusedSimpArgs false
set_option linter.unusedVariables false

theorem times2_spec (n lo : Int) (w : World) (h : inB lo n 64 = true) : Calls Tryz.prog 59 #[.int .i64 n, .int .i64 lo] w fun e w' => e = .returned (.bool true) ∧ w = w' := by
  have H := Lib.hid h
  clear h
  go_enter Tryz.func59, Tryz.ntmps59
  go_wp2_with (go_at_call 52; go_must (refine (in_spec _ _ _ _).mono ?_); rw [H.out]; rintro e w' ⟨rfl, rfl⟩)
  go_ret
  exact ⟨rfl, rfl⟩
set_option maxRecDepth 100000 in
set_option maxHeartbeats 8000000 in
theorem follow_spec (va vb vl : Value) (ps bs ls : List C2) (n : Nat) (H : Nat → List C2) (st : Int) (HST : RowKit.Hid (st = 4)) (w : World) (ha : RdV w va (cx ps)) (hb : RdV w vb (cx bs)) (hl : RdV w vl (cx ls)) (hla : ps.length = n + 1) (hlb : bs.length = n + 1) (hll : ls.length = n) (h1 : 1 ≤ n) (h2 : n ≤ 16) (hne : va ≠ vb)
    (hra : rootedF (ps.map nc) = true) (hrb : rootedF (bs.map nc) = true) (hva : validF (ps.map nc) = true) (hvb : validF (bs.map nc) = true) (hf : allFinC ls = true)
    (HW : RowKit.Hid (∀ k, 1 ≤ k → k ≤ 4 → safeWeigh (ps.map nc) (bs.map nc) (wx k, 0) (wt k, 0) ∧ polyF (weighF (ps.map nc) (bs.map nc) (wx k, 0) (wt k, 0)) = (H k, true) ∧ rootedF (H k) = true ∧ (H k).length = n + 1))
    (HP : RowKit.Hid (∀ i, i < n → ∀ k, k < 4 → finC (folR H ((ls.map nc).getD i (0, 0)) k) = true ∧ safePolish (H (k + 1)) 3 (folR H ((ls.map nc).getD i (0, 0)) k) ∧ polishF (H (k + 1)) 3 (folR H ((ls.map nc).getD i (0, 0)) k) = (folR H ((ls.map nc).getD i (0, 0)) (k + 1), true)))
    (R : List C2) (HRR : RowKit.Hid ((List.range n).map (fun i => folR H ((ls.map nc).getD i (0, 0)) 4) = R)) :
    Calls Tryz.prog 17 #[.agg #[va], .agg #[vb], vl, .int .i64 st, .int .i64 3] w (RetLB R w) := by
  obtain ⟨ao, acap, rfl, _⟩ := ha.shape
  obtain ⟨bo, bcap, rfl, _⟩ := hb.shape
  obtain ⟨lo, lcap, rfl, _⟩ := hl.shape
  rw [cx_length, hla] at ha hne ⊢
  rw [cx_length, hlb] at hb hne ⊢
  rw [cx_length, hll] at hl ⊢
  have VA := Lib.hid hva
  have VB := Lib.hid hvb
  have RA := Lib.hid hra
  have RB' := Lib.hid hrb
  have HF := Lib.hid hf
  have LA := Lib.hid hla
  have LB := Lib.hid hlb
  have LL := Lib.hid hll
  have NE := Lib.hid hne
  have i1 : inB 1 st 64 = true := by rw [HST.out]; decide
  have i2 : inB 0 3 64 = true := by decide
  have n0 := nrm0
  go_enter Tryz.func17, Tryz.ntmps17
  go_wp2_with fail
  have b2 : Below w.heap.size w ((w.alloc (.cells #[(.slice ao (n + 1) acap)] 28)).alloc (.cells #[(.slice bo (n + 1) bcap)] 28)) := by (repeat' (first | (with_reducible exact Below.refl _ _) | (with_reducible assumption) | (with_reducible refine Below.alloc ?_ ?_ _) | (with_reducible refine Below.setCell ?_ ?_ _) | (with_reducible refine Below.drew ?_) | (with_reducible refine Below.via (by assumption) ?_ ?_) | go_size))
  have z2 : ((w.alloc (.cells #[(.slice ao (n + 1) acap)] 28)).alloc (.cells #[(.slice bo (n + 1) bcap)] 28)).heap.size = w.heap.size + 2 := by simp
  have ca : ((w.alloc (.cells #[(.slice ao (n + 1) acap)] 28)).alloc (.cells #[(.slice bo (n + 1) bcap)] 28)).cell? ⟨w.heap.size, 0, none⟩ = some (.slice ao (n + 1) acap) := by go_simp
  have cb : ((w.alloc (.cells #[(.slice ao (n + 1) acap)] 28)).alloc (.cells #[(.slice bo (n + 1) bcap)] 28)).cell? ⟨w.heap.size + 1, 0, none⟩ = some (.slice bo (n + 1) bcap) := by go_simp
  generalize ((w.alloc (.cells #[(.slice ao (n + 1) acap)] 28)).alloc (.cells #[(.slice bo (n + 1) bcap)] 28)) = W2 at *
  have Ha2 := Lib.hid (ha.below b2)
  have Hb2 := Lib.hid (hb.below b2)
  have Hl2 := Lib.hid (hl.below b2)
  have B2 := Lib.hid b2
  have CA := Lib.hid ca
  have CB := Lib.hid cb
  clear ha hb hl hva hvb hra hrb hf hla hlb hll hne b2
  (go_at_call 58; ((with_reducible refine (all_spec _ _ _ ps ls n _ ca Ha2.out Hl2.out LA.out LL.out h1 h2 RA.out HF.out).mono ?_); rintro e w' ⟨m1, rfl, rfl⟩))
  have cb1 : (W2.drewN m1).cell? ⟨w.heap.size + 1, 0, none⟩ = some (.slice bo (n + 1) bcap) := cb
  have ca1 : (W2.drewN m1).cell? ⟨w.heap.size, 0, none⟩ = some (.slice ao (n + 1) acap) := ca
  go_wp2_with fail
  (go_at_call 35; ((with_reducible refine (rooted_spec _ _ bs _ cb1 (Hb2.out.below (drewN_below _ _)) (by have := LB.out; omega) (by have := LB.out; omega)).mono ?_); rintro e w' ⟨m2, rfl, rfl⟩; rw [RB'.out]))
  have hbx : Below W2.heap.size W2 ((W2.drewN m1).drewN m2) := below_drewN (below_drewN (Below.refl _ _) _) _
  clear cb1 ca1
  generalize hwc : (W2.drewN m1).drewN m2 = wc at *
  clear hwc
  have ca4 := (hbx.cell (p := ⟨w.heap.size, 0, none⟩) (by simp only; omega)).trans CA.out
  have cb4 := (hbx.cell (p := ⟨w.heap.size + 1, 0, none⟩) (by simp only; omega)).trans CB.out
  have Ha4 := Lib.hid (Ha2.out.below hbx)
  have Hb4 := Lib.hid (Hb2.out.below hbx)
  have Hl4 := Lib.hid (Hl2.out.below hbx)
  have sx := hbx.size
  have B4 := Lib.hid (B2.out.trans (hbx.mono (by omega)))
  clear hbx Ha2 Hb2 Hl2 B2 CA CB
  have hnl : cx ls ≠ [] := by rw [← List.length_pos_iff, cx_length]; have := LL.out; omega
  have hl40 : (cx ls).length ≤ 1099511627776 := by rw [cx_length, LL.out]; omega
  go_wp2_with (first | (go_at_call 59; ((with_reducible refine (times2_spec _ _ _ i1).mono ?_); rintro e w9 ⟨rfl, rfl⟩)) | (go_at_call 59; ((with_reducible refine (times2_spec _ _ _ i2).mono ?_); rintro e w9 ⟨rfl, rfl⟩)) | (at_builtin; go_must (refine wpList_cloneV (.complex .f32 0 0) 8 infoC rfl (cx_one ls) (by decide) rfl _ _ rfl Tryz.underlying25 Hl4.out hnl hl40 rfl rfl rfl ?_); intro g gcap w5 hg1 ho5 hb5))
  have ll := LL.out
  rw [cx_length, ll] at ho5
  have hgl : g < w5.heap.size := (own_cell ho5 (i := 0) (by omega)).2.2
  (try rw [cx_length])
  (try rw [ll])
  have HO5 := Lib.hid ho5
  have CAc := Lib.hid ca4
  have CBc := Lib.hid cb4
  have BC5 := Lib.hid hb5
  have sw : w.heap.size + 2 ≤ wc.heap.size := by omega
  have s5 := hb5.size
  clear ho5 hb5 ca4 cb4 Hl4 hnl hl40 ll
  go_loopw [13] (fun kv wr => ∃ (K k : Nat) (qs : List C2), K = k + 1 ∧ k ≤ 4 ∧ kv = .int .i64 (K : Int) ∧ qs.map nc = (List.range n).map (fun i => folR H ((ls.map nc).getD i (0, 0)) k) ∧ qs.length = n ∧ OwV 32 wr wc.heap.size (.slice (some ⟨g, 0, none⟩) n gcap) (cx qs) ∧ Below wc.heap.size wc wr ∧ g < wr.heap.size) (fun kv _ => 5 - (intOf kv).toNat)
  case atStart => exact ⟨1, 0, ls, rfl, by omega, rfl, by
    refine List.ext_getElem (by simp [LL.out]) fun i hi1 hi2 => ?_
    rw [List.length_map, LL.out] at hi1
    simp [folR, List.getD, LL.out, hi1], LL.out, HO5.out, BC5.out, hgl⟩
  case round =>
    obtain ⟨K, k, qs, hK, hk, rfl, hqs, hql, hrow, hbel, hgr⟩ := hrel
    have hsz := hbel.size
    by_cases hlt : k < 4
    · have car := (hbel.cell (p := ⟨w.heap.size, 0, none⟩) (by simp only; omega)).trans CAc.out
      have cbr := (hbel.cell (p := ⟨w.heap.size + 1, 0, none⟩) (by simp only; omega)).trans CBc.out
      have HaR := Lib.hid (Ha4.out.below hbel)
      have HbR := Lib.hid (Hb4.out.below hbel)
      obtain ⟨sw', pf', rt', len'⟩ := HW.out K (by omega) (by omega)
      have SW0 := Lib.hid sw'
      have PF0 := Lib.hid pf'
      have RT := Lib.hid rt'
      have LEN := Lib.hid len'
      have jK : (K : Int) ≤ st := by have := HST.out; omega
      have Hrow := Lib.hid hrow
      have Hqs := Lib.hid hqs
      have Hbel := Lib.hid hbel
      have Hql := Lib.hid hql
      have HK := Lib.hid hK
      have K1 : 1 ≤ K := by omega
      have K4 : K ≤ 4 := by omega
      clear sw' pf' rt' len' hrow hqs hbel hql hK
      go_wp2_with (first
        | ((with_reducible refine wpList_fop rfl .quo _ _ _ _ rfl rfl .f32 _ _ rfl rfl ?_); intro r mr hr; have HR := Lib.hid (show nrm .f32 r = wt K by rw [hr, HST.out]; rfl); clear hr)
        | ((with_reducible refine upon_fop .quo rfl _ .f32 _ _ ?_); intro r mr hr; have HR := Lib.hid (show nrm .f32 r = wt K by rw [hr, HST.out]; rfl); clear hr)
        | ((with_reducible refine wpList_fop rfl .sub _ _ _ _ rfl rfl .f32 _ _ rfl rfl ?_); intro r2 mr2 hr2; have HR2 := Lib.hid (show nrm .f32 r2 = wx K by rw [hr2, HR.out]; rfl); clear hr2)
        | ((with_reducible refine upon_fop .sub rfl _ .f32 _ _ ?_); intro r2 mr2 hr2; have HR2 := Lib.hid (show nrm .f32 r2 = wx K by rw [hr2, HR.out]; rfl); clear hr2))
      have EX : nc (r2, 0) = (wx K, 0) := Prod.ext HR2.out n0
      have EY : nc (r, 0) = (wt K, 0) := Prod.ext HR.out n0
      have FX := Lib.hid (show finC (nc (r2, 0)) = true by rw [EX]; exact (fC_iff _).1 (wx_gr (k := K) (by omega)).1)
      have FY := Lib.hid (show finC (nc (r, 0)) = true by rw [EY]; exact (fC_iff _).1 (wt_gr (k := K) (by omega)).1)
      have SW := Lib.hid (show safeWeigh (ps.map nc) (bs.map nc) (nc (r2, 0)) (nc (r, 0)) by rw [EX, EY]; exact SW0.out)
      have PF := Lib.hid (show polyF (weighF (ps.map nc) (bs.map nc) (nc (r2, 0)) (nc (r, 0))) = (H K, true) by rw [EX, EY]; exact PF0.out)
      clear EX EY HR HR2 SW0 PF0
      (go_at_call 60; ((with_reducible refine (weigh_spec (.slice ao (n + 1) acap) (.slice bo (n + 1) bcap) ps bs (r2, 0) (r, 0) (n + 1) _ (HaR.out.below (below_drewN (Below.refl _ _) _)) (HbR.out.below (below_drewN (Below.refl _ _) _)) (by omega) (by omega) LA.out LB.out NE.out VA.out VB.out FX.out FY.out SW (H K) PF).mono ?_); rintro e w6 ⟨v6, hs, rfl, hhs, ho6, hb6⟩))
      have hb6r : Below wr.heap.size wr w6 := Below.trans (below_drewN (Below.refl _ _) _) hb6
      have ho6r : OwV 32 w6 wr.heap.size v6 (cx hs) := ho6
      have hhl : hs.length = n + 1 := by have := congrArg List.length hhs; rw [List.length_map] at this; exact this.trans LEN.out
      obtain ⟨ho, hcap, rfl, _⟩ := ho6r.rd.shape
      rw [cx_length, hhl] at ho6r ⊢
      have s6 := hb6r.size
      have Ho6 := Lib.hid (Hrow.out.below hb6r)
      have Hh6 := Lib.hid ho6r
      have HHS := Lib.hid (show hs.map nc = H K from hhs)
      have HHL := Lib.hid hhl
      have Hb6 := Lib.hid (Hbel.out.trans (hb6r.mono hsz))
      clear ho6 ho6r hhs hb6 hb6r HaR HbR FX FY SW PF car cbr hhl
      go_upto_region 9 with fail
      have c15 : (w6.alloc (.cells #[.slice ho (n + 1) hcap] 28)).cell? ⟨w6.heap.size, 0, none⟩ = some (.slice ho (n + 1) hcap) := World.cell?_alloc_new w6 #[.slice ho (n + 1) hcap] 28 0
      have b7 : Below w6.heap.size w6 (w6.alloc (.cells #[.slice ho (n + 1) hcap] 28)) := (Below.refl _ _).alloc (Nat.le_refl _) _
      have s7 : w6.heap.size < (w6.alloc (.cells #[.slice ho (n + 1) hcap] 28)).heap.size := by simp
      generalize w6.alloc (.cells #[.slice ho (n + 1) hcap] 28) = w7 at *
      have Ho7 := Lib.hid (Ho6.out.below b7)
      have Hh7 := Lib.hid (Hh6.out.below b7)
      have Hb7 := Lib.hid (Hb6.out.trans (b7.mono (Nat.le_trans hsz s6)))
      clear b7 Ho6 Hh6 Hb6
      go_wp2_with fail
      (go_at_call 35; ((with_reducible refine (rooted_spec _ _ hs _ c15 Hh7.out.rd (by have := HHL.out; omega) (by have := HHL.out; omega)).mono ?_); rintro e w' ⟨m3, rfl, rfl⟩; rw [show rootedF (hs.map nc) = true by rw [HHS.out]; exact RT.out]))
      have d7 := drewN_below w7 m3
      have Ho7' := Lib.hid (Ho7.out.below d7)
      have Hh7' := Lib.hid (Hh7.out.below d7)
      have Hb7' := Lib.hid (below_drewN Hb7.out m3)
      have c15' : (w7.drewN m3).cell? ⟨w6.heap.size, 0, none⟩ = some (.slice ho (n + 1) hcap) := c15
      have s7' : w6.heap.size < (w7.drewN m3).heap.size := s7
      clear Ho7 Hh7 Hb7 c15 s7 d7
      generalize w7.drewN m3 = w9 at *
      go_wp2_with fail
      go_loopw [78] (fun iv wi => ∃ (i : Nat) (us : List C2), i ≤ n ∧ iv = .int .i64 i ∧ us.map nc = (List.range n).map (fun j => if j < i then folR H ((ls.map nc).getD j (0, 0)) K else folR H ((ls.map nc).getD j (0, 0)) k) ∧ us.length = n ∧ OwV 32 wi wc.heap.size (.slice (some ⟨g, 0, none⟩) n gcap) (cx us) ∧ OwV 32 wi wr.heap.size (.slice ho (n + 1) hcap) (cx hs) ∧ wi.cell? ⟨w6.heap.size, 0, none⟩ = some (.slice ho (n + 1) hcap) ∧ Below wc.heap.size wc wi ∧ w9.heap.size ≤ wi.heap.size) (fun iv _ => n - (intOf iv).toNat)
      case atStart => exact ⟨0, qs, Nat.zero_le _, rfl, by rw [Hqs.out]; simp, Hql.out, Ho7'.out, Hh7'.out, c15', Hb7'.out, Nat.le_refl _⟩
      case round =>
        obtain ⟨i, us, hi, rfl, hus, hul, hou, hoh, hch, hbi, hwi⟩ := hrel
        have HUS := Lib.hid hus
        have HUL := Lib.hid hul
        have HOU := Lib.hid hou
        have HOH := Lib.hid hoh
        have HBI := Lib.hid hbi
        by_cases hin : i < n
        · obtain ⟨ci, fi, gi⟩ := own_cell hou (i := i) (by omega)
          obtain ⟨fin, safe, pol⟩ := HP.out i hin k hlt
          rw [← HK.out] at safe pol
          have hx : nc (us.getD i (0, 0)) = folR H ((ls.map nc).getD i (0, 0)) k := by
            rw [← getD_nc, hus]; simp [List.getD, hin]
          have PI := Lib.hid (show ∀ wp, wp.cell? ⟨w6.heap.size, 0, none⟩ = some (.slice ho (n + 1) hcap) → RdV wp (.slice ho (n + 1) hcap) (cx hs) → Calls Tryz.prog 61 #[.pointer (some ⟨w6.heap.size, 0, none⟩), .complex .f32 (us.getD i (0, 0)).1 (us.getD i (0, 0)).2, .int .i64 3] wp (RetXB (polishF (hs.map nc) 3 (nc (us.getD i (0, 0)))) wp) from fun wp hpc hrd => polish_spec w6.heap.size (.slice ho (n + 1) hcap) hs (us.getD i (0, 0)) 3 wp hpc hrd (by have := HHL.out; omega) (by have := HHL.out; omega) (by rw [HHS.out]; exact RT.out) (by rw [hx]; exact fin) (by decide) (Lib.hid (by rw [HHS.out, hx]; exact safe)))
          have HXP := Lib.hid (show polishF (hs.map nc) 3 (nc (us.getD i (0, 0))) = (folR H ((ls.map nc).getD i (0, 0)) K, true) by rw [HHS.out, hx]; exact pol)
          have j0 : (0 : Int) ≤ (i : Int) := by omega
          have j1 : (i : Int) < (n : Int) := by omega
          have zi := hbi.size
          clear hus hul hou hoh hbi fin safe pol hx
          obtain ⟨X, hX⟩ : ∃ X, us.getD i (0, 0) = X := ⟨_, rfl⟩
          rw [hX] at ci PI HXP
          clear hX
          obtain ⟨x1, x2⟩ := X
          go_wp2_with fail
          (go_at_call 61; ((with_reducible refine (PI.out _ hch HOH.out.rd).mono ?_); rw [HXP.out]; rintro e w8 ⟨p1, p2, rfl, hp1, hp2, hb8⟩))
          have HPN := Lib.hid (show nc (p1, p2) = folR H ((ls.map nc).getD i (0, 0)) K from Prod.ext hp1 hp2)
          have z8 := hb8.size
          have hou8 := HOU.out.below hb8
          obtain ⟨ci8, fi8, gi8⟩ := own_cell hou8 (i := i) (by have := HUL.out; omega)
          have HOU8 := Lib.hid hou8
          have HOH8 := Lib.hid (HOH.out.below hb8)
          have ch8 := (hb8.cell (World.block_lt_of_cell? _ _ hch)).trans hch
          have HB8 := Lib.hid (HBI.out.trans (hb8.mono zi))
          clear hb8 hou8 hp1 hp2 PI HXP ci fi hch
          go_wp2_with fail
          go_roundw
          case rel => exact ⟨i + 1, us.set i (p1, p2), by omega, by go_num, by
            rw [map_set_nc, HUS.out, HPN.out]
            refine List.ext_getElem (by simp) fun j hj1 hj2 => ?_
            simp at hj1
            rw [List.getElem_set]
            by_cases hji : i = j
            · subst hji; simp
            · rw [if_neg hji]
              simp only [List.getElem_map, List.getElem_range]
              by_cases hlj : j < i
              · rw [if_pos hlj, if_pos (by omega)]
              · rw [if_neg hlj, if_neg (by omega)], by rw [List.length_set, HUL.out], by rw [← cx_set]; exact HOU8.out.set i _, own_set HOH8.out hgr _, (cellI (by omega)).trans ch8, HB8.out.setCell (p := ⟨g, i, none⟩) (by simp only; omega) _, by simp; omega⟩
          case measure => simp [intOf]; omega
        · (have hii : i = n := by omega); subst hii
          have HU2 := Lib.hid (show us.map nc = (List.range i).map (fun j => folR H ((ls.map nc).getD j (0, 0)) K) by
            rw [hus]
            refine List.map_congr_left fun j hj => ?_
            rw [if_pos (List.mem_range.1 hj)])
          clear hus hul hou hoh hbi hch
          go_wp2_with fail
          go_roundw
          case rel => exact ⟨K + 1, K, us, rfl, K4, by go_num, HU2.out, HUL.out, HOU.out, HBI.out, by omega⟩
          case measure => simp [intOf]; omega
    · (have hk4 : k = 4 := by omega); subst hk4
      have Hrow := Lib.hid (hrow.mono (show w.heap.size ≤ wc.heap.size by omega))
      have Hqs := Lib.hid (hqs.trans HRR.out)
      have Hbel := Lib.hid (B4.out.trans (hbel.mono (by omega)))
      have jK : ¬ ((K : Int) ≤ st) := by have := HST.out; omega
      clear hrow hqs hbel
      go_wp2_with fail
      go_ret2
      exact ⟨_, qs, rfl, Hqs.out, Hrow.out, Hbel.out⟩
end Go.Proofs.YtfnhddaofllniaaGreat
