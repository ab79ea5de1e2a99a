/- Sums of polynomials, weighed, of the program. Conditions: valid polynomials of the same length, in lists apart; finite weights; what is narrowed fits float32; the sum is valid. -/
import Derived.Test.YtfnhddaofllniaaGreatV21
namespace Go.Proofs.YtfnhddaofllniaaGreat
set_option linter.unusedSimpArgs false
set_option linter.unusedVariables false
open Go Go.RowKit

theorem rd_c2w {w : World} {s : Nat} (hs : s = w.heap.size) (y z : C2) : RdV (w.alloc (.cells #[.complex .f32 y.1 y.2, .complex .f32 z.1 z.2] 32)) (.slice (some ⟨s, 0, none⟩) 2 2) (cx [y, z]) := by
  subst hs
  refine ⟨_, 2, rfl, ⟨Nat.le_refl _, by decide⟩, .inr ⟨w.heap.size, 0, rfl, fun i hi => ?_⟩⟩
  simp at hi
  rcases (by omega : i = 0 ∨ i = 1) with rfl | rfl
  · exact (World.cell?_alloc_new w #[.complex .f32 y.1 y.2, .complex .f32 z.1 z.2] 32 0 : _)
  · exact (World.cell?_alloc_new w #[.complex .f32 y.1 y.2, .complex .f32 z.1 z.2] 32 1 : _)
set_option maxRecDepth 100000 in
set_option maxHeartbeats 4000000 in
theorem weigh_impl (va vb : Value) (ps bs : List C2) (x y : C2) (N : Nat) (w : World) (ha : RdV w va (cx ps)) (hb : RdV w vb (cx bs)) (h1 : 1 ≤ N) (h2 : N ≤ 17) (hla : ps.length = N) (hlb : bs.length = N) (hne : va ≠ vb)
    (hva : validF (ps.map nc) = true) (hvb : validF (bs.map nc) = true) (hx : finC (nc x) = true) (hy : finC (nc y) = true) (Hs : RowKit.Hid (safeWeigh (ps.map nc) (bs.map nc) (nc x) (nc y)))
    (F : List C2) (HF : RowKit.Hid (polyF (weighF (ps.map nc) (bs.map nc) (nc x) (nc y)) = (F, true))) :
    Calls Tryz.prog 64 #[.agg #[va], .agg #[vb], .complex .f32 x.1 x.2, .complex .f32 y.1 y.2] w (RetP (F, true) w.heap.size w) := by
  obtain ⟨ao, acap, rfl, _⟩ := ha.shape
  obtain ⟨bo, bcap, rfl, _⟩ := hb.shape
  rw [cx_length, hla] at ha hne ⊢
  rw [cx_length, hlb] at hb hne ⊢
  have Ha := Lib.hid ha
  have Hb := Lib.hid hb
  have VA := Lib.hid hva
  have VB := Lib.hid hvb
  have HX := Lib.hid hx
  have HY := Lib.hid hy
  have HXY := Lib.hid (show allFinC [x, y] = true by simp [allFinC, hx, hy])
  have HW := Lib.hid (show weighF (ps.map nc) (bs.map nc) (nc x) (nc y) = (List.range N).map (fun k => addC (mulC ((ps.map nc).getD k (0, 0)) (nc x)) (mulC ((bs.map nc).getD k (0, 0)) (nc y))) by
    unfold weighF; rw [List.length_map, List.length_map, hla, hlb, Nat.max_self])
  have HS := Lib.hid (show ∀ k, k < N → fit2 (timesF (nc (ps.getD k (0, 0))) (nc x)) ∧ fit2 (timesF (nc (bs.getD k (0, 0))) (nc y)) from fun k hk => by
    have := Hs.out k (by rw [List.length_map, List.length_map, hla, hlb, Nat.max_self]; exact hk)
    rwa [getD_nc, getD_nc] at this)
  have mx : max (N : Int) (N : Int) = (N : Int) := by omega
  have LA := Lib.hid hla
  have LB := Lib.hid hlb
  have HNE := Lib.hid hne
  clear ha hb hva hvb hx hy Hs hla hlb hne
  go_enter Tryz.func64, Tryz.ntmps64
  go_wp2_with fail
  obtain ⟨z3, b3, ca, cb, cc, fc⟩ := boxes3 w (.slice ao N acap) (.slice bo N bcap) (.slice none 0 0) 28 rfl
  have B3 := Lib.hid b3
  generalize hW3 : (((w.alloc (.cells #[(.slice ao N acap)] 28)).alloc (.cells #[(.slice bo N bcap)] 28)).alloc (.cells #[.slice none 0 0] 28)) = W3 at *
  have Ca := Lib.hid ca
  have Cb := Lib.hid cb
  have Cc := Lib.hid cc
  have Fc := Lib.hid fc
  have Ha3 := Lib.hid (Ha.out.below b3)
  have Hb3 := Lib.hid (Hb.out.below b3)
  have la := LA.out
  have lb := LB.out
  clear hW3 b3 cc fc
  (go_at_call 40; ((with_reducible refine (valid_impl _ ps _ Ha3.out (by omega) (by omega)).mono ?_); rw [VA.out]; rintro e w1 ⟨rfl, hb1⟩))
  have Cb1 := (hb1.cell (p := ⟨w.heap.size + 1, 0, none⟩) (by simp only; omega)).trans Cb.out
  have z1 := hb1.size
  go_wp2_with fail
  (go_at_call 40; ((with_reducible refine (valid_impl _ bs _ (Hb3.out.below hb1) (by omega) (by omega)).mono ?_); rw [VB.out]; rintro e w2 ⟨rfl, hb2⟩))
  have z2 := hb2.size
  go_wp2_with fail
  (go_at_call 41; ((with_reducible refine (allFinite_impl _ [x, y] _ (rd_c2w rfl x y) (by simp)).mono ?_); rintro e w4 ⟨rfl, hb3⟩; rw [HXY.out]))
  have B4 := Lib.hid (show Below W3.heap.size W3 w4 from ((hb1.trans (hb2.mono z1)).trans ((Below.refl _ _).alloc (Nat.le_trans z1 z2) _)).trans (hb3.mono (by simp; omega)))
  clear hb1 hb2 hb3 z1 z2 Cb1
  have s4 := B4.out.size
  have Ca4 := Lib.hid ((B4.out.cell (p := ⟨w.heap.size, 0, none⟩) (by simp only; omega)).trans Ca.out)
  have Cb4 := Lib.hid ((B4.out.cell (p := ⟨w.heap.size + 1, 0, none⟩) (by simp only; omega)).trans Cb.out)
  have Cc4 := Lib.hid ((B4.out.cell (p := ⟨w.heap.size + 1 + 1, 0, none⟩) (by simp only; omega)).trans Cc.out)
  have Fc4 := Lib.hid (show w4.frozen? ⟨w.heap.size + 1 + 1, 0, none⟩ = false by rw [(bcell B4.out).2 _ _ (by omega)]; exact Fc.out)
  have Ha4 := Lib.hid (Ha3.out.below B4.out)
  have Hb4 := Lib.hid (Hb3.out.below B4.out)
  have ca4 := Ca4.out
  have cb4 := Cb4.out
  have lw1 : w.heap.size < w4.heap.size := by omega
  have lw2 : w.heap.size + 1 < w4.heap.size := by omega
  clear Ca Cb Cc Fc Ha3 Hb3 ca cb Ha Hb
  go_wp2_with fail
  go_loopw [10, 36] (fun ov kv wr => ∃ (k : Nat) (ts : List C2), k ≤ N ∧ kv = .int .i64 k ∧ RowV 32 wr w4.heap.size ov (cx ts) ∧ ts.map nc = (List.range k).map (fun k => addC (mulC ((ps.map nc).getD k (0, 0)) (nc x)) (mulC ((bs.map nc).getD k (0, 0)) (nc y))) ∧ Below w4.heap.size w4 wr) (fun _ kv _ => N - (intOf kv).toNat)
  case atStart => exact ⟨0, [], Nat.zero_le _, rfl, row_nil (Nat.le_refl _) _, rfl, by (repeat' (first | (with_reducible exact Below.refl _ _) | (with_reducible assumption) | (with_reducible refine Below.alloc ?_ ?_ _) | (with_reducible refine Below.setCell ?_ ?_ _) | (with_reducible refine Below.drew ?_) | (with_reducible refine Below.via (by assumption) ?_ ?_) | go_size))⟩
  case round =>
    obtain ⟨k, ts, hk, rfl, hrow, hts, hbel⟩ := hrel
    have hsz := hbel.size
    have tl : ts.length = k := by have := congrArg List.length hts; simpa using this
    have car := (hbel.cell (p := ⟨w.heap.size, 0, none⟩) (by simp only; omega)).trans Ca4.out
    have cbr := (hbel.cell (p := ⟨w.heap.size + 1, 0, none⟩) (by simp only; omega)).trans Cb4.out
    by_cases hlt : k < N
    · have T1 := Lib.hid (fun n => termAt_impl (.slice ao N acap) ps k (wr.drewN n) (Ha4.out.below (below_drewN hbel n)) (by omega) (by omega))
      have T2 := Lib.hid (fun n => termAt_impl (.slice bo N bcap) bs k (wr.drewN n) (Hb4.out.below (below_drewN hbel n)) (by omega) (by omega))
      obtain ⟨hf1, hf2⟩ := HS.out k hlt
      have HG := Lib.hid (show (fun k => addC (mulC ((ps.map nc).getD k (0, 0)) (nc x)) (mulC ((bs.map nc).getD k (0, 0)) (nc y))) k = addC (mulC (nc (ps.getD k (0, 0))) (nc x)) (mulC (nc (bs.getD k (0, 0))) (nc y)) by simp only [getD_nc])
      generalize ps.getD k (0, 0) = A at *
      generalize bs.getD k (0, 0) = B at *
      obtain ⟨a1, a2⟩ := A
      obtain ⟨b1, b2⟩ := B
      have Hf1 := Lib.hid hf1
      have Hf2 := Lib.hid hf2
      have Hl := Lib.hid (show (cx ts).length ≤ 1099511627776 by simp; omega)
      have j2 : (0 : Int) ≤ (k : Int) := by omega
      have j3 : (k : Int) < (N : Int) := by omega
      have Hts := Lib.hid hts
      have Hbel := Lib.hid hbel
      have hne := HNE.out
      have HNE2 := Lib.hid hne
      clear hts hbel hf1 hf2 tl hne
      go_wp2_with fail
      refine wp_region_v0 14 (GW 31 76 (75) (.slice ao N acap) (.slice bo N bcap) (a1, a2) (b1, b2) k) _ _ (by kernel_rfl) rfl (by kernel_rfl) (fun _ _ _ h => h) (Or.inl ⟨by rfl, fun w => by go_simp; try rfl⟩) ?_
      simp only [List.take_succ_cons, List.take_zero, List.drop_succ_cons, List.drop_zero]
      go_simp
      have hne := HNE2.out
      repeat (apply wpV_det; (exact rfl); (intro nq; go_simp; rfl); (intro K hK; go_simp; refine hK.use ?_; clear hK K))
      (apply wpV_call; (exact rfl); (intro nq; go_simp; first | exact ⟨rfl, rfl⟩ | rfl); (intro nq; refine (T1.out nq).mono ?_; rintro e w' ⟨rfl, rfl⟩; exact ⟨_, rfl, .inl ⟨rfl, .inl ⟨rfl, rfl⟩⟩, nq, rfl⟩); (rintro u h); (obtain rfl := GW.fst h (by decide) (by decide) hne); clear h; (intro K hK; go_simp; refine hK.use ?_; clear hK K))
      repeat (apply wpV_det; (exact rfl); (intro nq; go_simp; rfl); (intro K hK; go_simp; refine hK.use ?_; clear hK K))
      (apply wpV_call; (exact rfl); (intro nq; go_simp; first | exact ⟨rfl, rfl⟩ | rfl); (intro nq; refine (mul_impl (a1, a2) x Hf1 _).mono ?_; rintro e w' ⟨a, b, mm, rfl, ha, hb, rfl⟩; exact ⟨_, rfl, .inr (.inl ⟨rfl, (a1, a2), x, a, b, rfl, rfl, Prod.ext ha hb⟩), nq + mm, by simp [Nat.add_assoc]⟩); (rintro u h); (obtain ⟨p1, q1, rfl, hM1⟩ := GW.mul (p := (a1, a2)) (q := x) h (by decide) (by decide)); clear h; (intro K hK; go_simp; refine hK.use ?_; clear hK K))
      repeat (apply wpV_det; (exact rfl); (intro nq; go_simp; rfl); (intro K hK; go_simp; refine hK.use ?_; clear hK K))
      (apply wpV_call; (exact rfl); (intro nq; go_simp; first | exact ⟨rfl, rfl⟩ | rfl); (intro nq; refine (T2.out nq).mono ?_; rintro e w' ⟨rfl, rfl⟩; exact ⟨_, rfl, .inl ⟨rfl, .inr ⟨rfl, rfl⟩⟩, nq, rfl⟩); (rintro u h); (obtain rfl := GW.snd h (by decide) (by decide) hne); clear h; (intro K hK; go_simp; refine hK.use ?_; clear hK K))
      repeat (apply wpV_det; (exact rfl); (intro nq; go_simp; rfl); (intro K hK; go_simp; refine hK.use ?_; clear hK K))
      (apply wpV_call; (exact rfl); (intro nq; go_simp; first | exact ⟨rfl, rfl⟩ | rfl); (intro nq; refine (mul_impl (b1, b2) y Hf2 _).mono ?_; rintro e w' ⟨a, b, mm, rfl, ha, hb, rfl⟩; exact ⟨_, rfl, .inr (.inl ⟨rfl, (b1, b2), y, a, b, rfl, rfl, Prod.ext ha hb⟩), nq + mm, by simp [Nat.add_assoc]⟩); (rintro u h); (obtain ⟨p2, q2, rfl, hM2⟩ := GW.mul (p := (b1, b2)) (q := y) h (by decide) (by decide)); clear h; (intro K hK; go_simp; refine hK.use ?_; clear hK K))
      repeat (apply wpV_det; (exact rfl); (intro nq; go_simp; rfl); (intro K hK; go_simp; refine hK.use ?_; clear hK K))
      (apply wpV_call; (exact rfl); (intro nq; go_simp; first | exact ⟨rfl, rfl⟩ | rfl); (intro nq; refine (plus_impl (p1, q1) (p2, q2) _).mono ?_; rintro e w' ⟨a, b, mm, rfl, ha, hb, rfl⟩; exact ⟨_, rfl, .inr (.inr ⟨rfl, (p1, q1), (p2, q2), a, b, rfl, rfl, Prod.ext ha hb⟩), nq + mm, by simp [Nat.add_assoc]⟩); (rintro u h); (obtain ⟨g1, g2, rfl, hM3⟩ := GW.add (p := (p1, q1)) (q := (p2, q2)) h (by decide) (by decide)); clear h; (intro K hK; go_simp; refine hK.use ?_; clear hK K))
      have He := Lib.hid (show nc (g1, g2) = addC (mulC (nc (a1, a2)) (nc x)) (mulC (nc (b1, b2)) (nc y)) by rw [hM3, hM1, hM2])
      clear hM1 hM2 hM3
      repeat (apply wpV_det; (exact rfl); (intro nq; go_simp; rfl); (intro K hK; go_simp; refine hK.use ?_; clear hK K))
      refine wpV_nil (fun nq => ?_)
      clear hne car cbr
      go_wp2_with (at_builtin; go_must (refine wpList_pushV (.complex .f32 0 0) 8 hrow infoC rfl rfl (by decide) rfl _ _ rfl Tryz.underlying25 Hl.out (by omega) rfl rfl rfl rfl rfl rfl ?_); intro v1 w1 hr1 hb1 hg1 ho1)
      go_roundw
      case rel => exact ⟨k + 1, ts ++ [(g1, g2)], by omega, by go_num, by rw [← cx_push]; exact hr1, by rw [List.map_append, Hts.out, weigh_succ, List.map_cons, List.map_nil, He.out, ← HG.out], Hbel.out.trans hb1⟩
      case measure => simp [intOf]; omega
    · obtain rfl : k = N := by omega
      have tne : ts ≠ [] := by intro h; rw [h] at tl; simp at tl; omega
      have Hrd := Lib.hid hrow.rd
      have Ht := Lib.hid (show polyF (ts.map nc) = (F, true) by rw [hts, ← HW.out]; exact HF.out)
      have Hbel := Lib.hid hbel
      have Cc5 := Lib.hid ((hbel.cell (p := ⟨w.heap.size + 1 + 1, 0, none⟩) (by simp only; omega)).trans Cc4.out)
      have Fc5 := Lib.hid (show wr.frozen? ⟨w.heap.size + 1 + 1, 0, none⟩ = false by rw [(bcell hbel).2 _ _ (by omega)]; exact Fc4.out)
      obtain ⟨ao3, cap3, rfl, _⟩ := hrow.rd.shape
      rw [cx_length, tl] at Hrd hrow ⊢
      clear hts hbel
      go_wp2_with fail
      (go_at_call 34; ((with_reducible refine (polyOf_impl _ ts _ w4.heap.size hsz hrow.own tne (by omega)).mono ?_)))
      rw [Ht.out]
      rintro e w6 ⟨v6, us, rfl, hus, ho6, hb6⟩
      have B6 := Lib.hid (B3.out.trans ((B4.out.trans (Hbel.out.mono s4)).trans (hb6.mono (by omega)) |>.mono (by omega)))
      have z6 := hb6.size
      have Cc6 := Lib.hid ((hb6.cell (p := ⟨w.heap.size + 1 + 1, 0, none⟩) (by simp only; omega)).trans Cc5.out)
      have Fc6 := Lib.hid (show w6.frozen? ⟨w.heap.size + 1 + 1, 0, none⟩ = false by rw [(bcell hb6).2 _ _ (by omega)]; exact Fc5.out)
      have Ho6 := Lib.hid ho6
      have cc6 := Cc6.out
      have fc6 := Fc6.out
      have zl : w.heap.size + 1 + 1 < w6.heap.size := by omega
      obtain ⟨ao6, cap6, rfl, _⟩ := ho6.rd.shape
      rw [cx_length] at Ho6
      clear ho6 hb6 hrow
      rw [cx_length]
      go_wp2_with fail
      have OF := (own_set (j := 0) Ho6.out (show w.heap.size + 1 + 1 < w4.heap.size by omega) (.slice ao6 us.length cap6)).mono (show w.heap.size ≤ w4.heap.size by omega)
      have RF := Lib.hid OF
      have BF := Lib.hid (B6.out.setCell (p := ⟨w.heap.size + 1 + 1, 0, none⟩) (by simp only; omega) (.slice ao6 us.length cap6))
      have cf := setCell_self cc6 (.slice ao6 us.length cap6)
      clear OF
      generalize w6.setCell ⟨w.heap.size + 1 + 1, 0, none⟩ (.slice ao6 us.length cap6) = WF at *
      refine bodyPost_ret (by simp [results, Tryz.results64, go_sem, cf]; try rfl) rfl ?_
      exact ⟨_, us, rfl, hus, RF.out, BF.out⟩
end Go.Proofs.YtfnhddaofllniaaGreat
