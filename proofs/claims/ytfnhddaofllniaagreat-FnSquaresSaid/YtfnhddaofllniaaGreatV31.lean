/- The moved roots' misses at the second polynomial can be reckoned. Conditions: up to four drawn roots; points of norm at most 25/8. -/
import Derived.Test.YtfnhddaofllniaaGreatV21
namespace Go.Proofs.YtfnhddaofllniaaGreat
open Go
set_option linter.unusedSimpArgs false
set_option linter.unusedVariables false

theorem VV_le {d : Nat → Q2} {n : Nat} (h : ∀ j, j < n → N (d j) ≤ 8) : N (VV d n).1 ≤ p2 (3 * (n : Int)) := by
  induction n with
  | zero => show N one2 ≤ _; decide +kernel
  | succ n ih =>
    have a := ih (fun j hj => h j (by omega))
    have b := N_mul (d n) (VV d n).1
    have c := mul_le (h n (by omega)) a (N_nonneg _) (by decide +kernel)
    have e : p2 (3 * ((n + 1 : Nat) : Int)) = 8 * p2 (3 * (n : Int)) := by rw [show (8 : Rat) = p2 3 by decide +kernel, ← p2_add]; congr 1; omega
    rw [e]
    exact Rat.le_trans b c
section
variable {ls : List C2} {X : Nat → Int × Int}
theorem DX.moved (h : DX ls X) (h1 : 1 ≤ ls.length) (h4 : ls.length ≤ 4) {z : C2} (fz : fC z) (nzz : N (cv z) ≤ 25 / 8) :
    MsOk (qP (rootsL (ls.map nc) ls.length)) z (nestedF (qP (rootsL (ls.map nc) ls.length)) z) := by
  have H := h.second h1 h4
  have hX : ∀ j, j < ls.length → nz (X j) ≤ nb j := fun j hj => nb_ok h h4 hj
  obtain ⟨r1, r2, _, _, _, _⟩ := H.poly h1 h4 hX
  have E : safeN (qP (rootsL (ls.map nc) ls.length)) z ∧ Nr (nestedF (qP (rootsL (ls.map nc) ls.length)) z) ((VV (gq X (cv z)) ls.length).1 + hk 4) 1 := by
    generalize qP (rootsL (ls.map nc) ls.length) = F at *
    generalize ls.length = n at *
    rcases (by omega : n = 1 ∨ n = 2 ∨ n = 3 ∨ n = 4) with rfl | rfl | rfl | rfl
    · obtain ⟨a, _, b, _⟩ := ev_at1 H hX fz nzz
      exact ⟨a, b.1, Rat.le_trans b.2 (by decide +kernel)⟩
    · obtain ⟨a, _, b, _⟩ := ev_at2 H hX fz nzz
      exact ⟨a, b.1, Rat.le_trans b.2 (by decide +kernel)⟩
    · obtain ⟨a, _, b, _⟩ := ev_at3 H hX fz nzz
      exact ⟨a, b.1, Rat.le_trans b.2 (by decide +kernel)⟩
    · obtain ⟨a, _, b, _⟩ := ev_at4 H hX fz nzz
      exact ⟨a, b.1, Rat.le_trans b.2 (by decide +kernel)⟩
  obtain ⟨s, fv, ev⟩ := E
  have vb : N (VV (gq X (cv z)) ls.length).1 ≤ p2 (3 * (ls.length : Int)) := VV_le fun j hj => by
    have a := N_sub (cv z) (rq X j)
    have b := rq_norm (h.b j)
    have e : ((24 : Nat) : Rat) * (1 / 8) = 3 := by decide +kernel
    rw [e] at b
    show N (cv z - rq X j) ≤ 8
    grind
  have vb2 : p2 (3 * (ls.length : Int)) ≤ p2 12 := p2_mono (by omega)
  have hk4 : N (hk 4) ≤ 1 := by decide +kernel
  have a1 := N_addle ev
  have a2 := N_add (VV (gq X (cv z)) ls.length).1 (hk 4)
  have nv : N (cv (nestedF (qP (rootsL (ls.map nc) ls.length)) z)) ≤ p2 40 := by
    have : p2 12 + 1 + 1 ≤ p2 40 := by decide +kernel
    grind
  have z40 : N (cv z) ≤ p2 40 := Rat.le_trans nzz (by decide +kernel)
  refine ⟨r1, s, ?_, fun k hk => ?_, fit_long fz z40, fit_long fv nv⟩
  · unfold polyAtF finiteX
    rw [if_pos ⟨r2, (fC_iff z).1 fz⟩, if_pos ((fC_iff _).1 fv)]
  · have hkn : k < ls.length + 1 := by rw [H.l] at hk; exact hk
    by_cases h0 : k = 0
    · subst h0
      refine fit_long H.f0 ?_
      rcases H.b0 with u | ⟨_, u⟩
      · exact Rat.le_trans u (by decide +kernel)
      · exact Rat.le_trans u (by decide +kernel)
    · have g : Gr ((qP (rootsL (ls.map nc) ls.length)).getD k (0, 0)) (((1 : Nat) : Int) * (cz X ls.length k).1) (((1 : Nat) : Int) * (cz X ls.length k).2) (3 * (ls.length - k)) := H.t k (by omega) (by omega)
      refine fit_long g.1 (gr_le g (2 ^ 19) ?_ ?_)
      · have := cz_bd X h.b ls.length k
        have := bz_lt ls.length (by omega) k (by omega)
        unfold nz at *
        simp only [Int.natAbs_mul]
        show 1 * _ + 1 * _ ≤ _
        omega
      · have e1 : p2 (-((3 * (ls.length - k) : Nat) : Int)) ≤ 1 := p2_small (by omega)
        have e2 : ((2 ^ 19 : Nat) : Rat) * p2 (-((3 * (ls.length - k) : Nat) : Int)) ≤ ((2 ^ 19 : Nat) : Rat) * 1 := Rat.mul_le_mul_of_nonneg_left e1 (by decide +kernel)
        exact Rat.le_trans e2 (by decide +kernel)
end
end Go.Proofs.YtfnhddaofllniaaGreat

/- Sums of polynomials, weighed, of the reference. Conditions: valid polynomials of the same length, in lists apart; finite weights; what is narrowed fits float32; the sum is valid. -/
namespace Go.Proofs.YtfnhddaofllniaaGreat
set_option linter.unusedSimpArgs false
set_option linter.unusedVariables false
open Go Go.RowKit

set_option maxRecDepth 100000 in
set_option maxHeartbeats 4000000 in
theorem weigh_spec (va vb : Value) (ps bs : List C2) (x y : C2) (N : Nat) (w : World) (ha : RdV w va (cx ps)) (hb : RdV w vb (cx bs)) (h1 : 1 ≤ N) (h2 : N ≤ 17) (hla : ps.length = N) (hlb : bs.length = N) (hne : va ≠ vb)
    (hva : validF (ps.map nc) = true) (hvb : validF (bs.map nc) = true) (hx : finC (nc x) = true) (hy : finC (nc y) = true) (Hs : RowKit.Hid (safeWeigh (ps.map nc) (bs.map nc) (nc x) (nc y)))
    (F : List C2) (HF : RowKit.Hid (polyF (weighF (ps.map nc) (bs.map nc) (nc x) (nc y)) = (F, true))) :
    Calls Tryz.prog 60 #[.agg #[va], .agg #[vb], .complex .f32 x.1 x.2, .complex .f32 y.1 y.2] w (RetP (F, true) w.heap.size w) := by
  obtain ⟨ao, acap, rfl, _⟩ := ha.shape
  obtain ⟨bo, bcap, rfl, _⟩ := hb.shape
  rw [cx_length, hla] at ha hne ⊢
  rw [cx_length, hlb] at hb hne ⊢
  have Ha := Lib.hid ha
  have Hb := Lib.hid hb
  have VA := Lib.hid hva
  have VB := Lib.hid hvb
  have HX := Lib.hid hx
  have HY := Lib.hid hy
  
  have HW := Lib.hid (show weighF (ps.map nc) (bs.map nc) (nc x) (nc y) = (List.range N).map (fun k => addC (mulC ((ps.map nc).getD k (0, 0)) (nc x)) (mulC ((bs.map nc).getD k (0, 0)) (nc y))) by
    unfold weighF; rw [List.length_map, List.length_map, hla, hlb, Nat.max_self])
  have HS := Lib.hid (show ∀ k, k < N → fit2 (timesF (nc (ps.getD k (0, 0))) (nc x)) ∧ fit2 (timesF (nc (bs.getD k (0, 0))) (nc y)) from fun k hk => by
    have := Hs.out k (by rw [List.length_map, List.length_map, hla, hlb, Nat.max_self]; exact hk)
    rwa [getD_nc, getD_nc] at this)
  have mx : max (N : Int) (N : Int) = (N : Int) := by omega
  have LA := Lib.hid hla
  have LB := Lib.hid hlb
  have HNE := Lib.hid hne
  clear ha hb hva hvb hx hy Hs hla hlb hne
  go_enter Tryz.func60, Tryz.ntmps60
  go_wp2_with fail
  obtain ⟨z3, b3, ca, cb, cc, fc⟩ := boxes3 w (.slice ao N acap) (.slice bo N bcap) (.slice none 0 0) 28 rfl
  have B3 := Lib.hid b3
  generalize hW3 : (((w.alloc (.cells #[(.slice ao N acap)] 28)).alloc (.cells #[(.slice bo N bcap)] 28)).alloc (.cells #[.slice none 0 0] 28)) = W3 at *
  have Ca := Lib.hid ca
  have Cb := Lib.hid cb
  have Cc := Lib.hid cc
  have Fc := Lib.hid fc
  have Ha3 := Lib.hid (Ha.out.below b3)
  have Hb3 := Lib.hid (Hb.out.below b3)
  have la := LA.out
  have lb := LB.out
  clear hW3 b3 cc fc
  (go_at_call 99; ((with_reducible refine (two_spec _ _ _ _ ps bs _ Ca.out Cb.out Ha3.out Hb3.out (by omega) (by omega) (by omega) (by omega) VA.out VB.out).mono ?_); rintro e w' ⟨m1, rfl, rfl⟩))
  go_wp2_with fail
  (go_at_call 38; ((with_reducible refine (cfin1_spec x _).mono ?_); rw [HX.out]; rintro e w' ⟨m2, rfl, rfl⟩))
  go_wp2_with fail
  (go_at_call 38; ((with_reducible refine (cfin1_spec y _).mono ?_); rw [HY.out]; rintro e w' ⟨m3, rfl, rfl⟩))
  have B4 := Lib.hid (show Below W3.heap.size W3 ((W3.drewN (m1 + m2)).drewN m3) from below_drewN (below_drewN (Below.refl _ _) _) _)
  generalize hw4 : (W3.drewN (m1 + m2)).drewN m3 = w4 at *
  clear hw4
  have s4 := B4.out.size
  have Ca4 := Lib.hid ((B4.out.cell (p := ⟨w.heap.size, 0, none⟩) (by simp only; omega)).trans Ca.out)
  have Cb4 := Lib.hid ((B4.out.cell (p := ⟨w.heap.size + 1, 0, none⟩) (by simp only; omega)).trans Cb.out)
  have Cc4 := Lib.hid ((B4.out.cell (p := ⟨w.heap.size + 1 + 1, 0, none⟩) (by simp only; omega)).trans Cc.out)
  have Fc4 := Lib.hid (show w4.frozen? ⟨w.heap.size + 1 + 1, 0, none⟩ = false by rw [(bcell B4.out).2 _ _ (by omega)]; exact Fc.out)
  have Ha4 := Lib.hid (Ha3.out.below B4.out)
  have Hb4 := Lib.hid (Hb3.out.below B4.out)
  have ca4 := Ca4.out
  have cb4 := Cb4.out
  have lw1 : w.heap.size < w4.heap.size := by omega
  have lw2 : w.heap.size + 1 < w4.heap.size := by omega
  clear Ca Cb Cc Fc Ha3 Hb3 ca cb Ha Hb
  go_wp2_with fail
  go_loopw [10, 11] (fun ov kv wr => ∃ (k : Nat) (ts : List C2), k ≤ N ∧ kv = .int .i64 k ∧ RowV 32 wr w4.heap.size ov (cx ts) ∧ ts.map nc = (List.range k).map (fun k => addC (mulC ((ps.map nc).getD k (0, 0)) (nc x)) (mulC ((bs.map nc).getD k (0, 0)) (nc y))) ∧ Below w4.heap.size w4 wr) (fun _ kv _ => N - (intOf kv).toNat)
  case atStart => exact ⟨0, [], Nat.zero_le _, rfl, row_nil (Nat.le_refl _) _, rfl, by (repeat' (first | (with_reducible exact Below.refl _ _) | (with_reducible assumption) | (with_reducible refine Below.alloc ?_ ?_ _) | (with_reducible refine Below.setCell ?_ ?_ _) | (with_reducible refine Below.drew ?_) | (with_reducible refine Below.via (by assumption) ?_ ?_) | go_size))⟩
  case round =>
    obtain ⟨k, ts, hk, rfl, hrow, hts, hbel⟩ := hrel
    have hsz := hbel.size
    have tl : ts.length = k := by have := congrArg List.length hts; simpa using this
    have car := (hbel.cell (p := ⟨w.heap.size, 0, none⟩) (by simp only; omega)).trans Ca4.out
    have cbr := (hbel.cell (p := ⟨w.heap.size + 1, 0, none⟩) (by simp only; omega)).trans Cb4.out
    by_cases hlt : k < N
    · have T1 := Lib.hid (fun n => termN_spec (.slice ao N acap) ps k (wr.drewN n) (Ha4.out.below (below_drewN hbel n)) (by omega) (by omega))
      have T2 := Lib.hid (fun n => termN_spec (.slice bo N bcap) bs k (wr.drewN n) (Hb4.out.below (below_drewN hbel n)) (by omega) (by omega))
      obtain ⟨hf1, hf2⟩ := HS.out k hlt
      have HG := Lib.hid (show (fun k => addC (mulC ((ps.map nc).getD k (0, 0)) (nc x)) (mulC ((bs.map nc).getD k (0, 0)) (nc y))) k = addC (mulC (nc (ps.getD k (0, 0))) (nc x)) (mulC (nc (bs.getD k (0, 0))) (nc y)) by simp only [getD_nc])
      generalize ps.getD k (0, 0) = A at *
      generalize bs.getD k (0, 0) = B at *
      obtain ⟨a1, a2⟩ := A
      obtain ⟨b1, b2⟩ := B
      have Hf1 := Lib.hid hf1
      have Hf2 := Lib.hid hf2
      have Hl := Lib.hid (show (cx ts).length ≤ 1099511627776 by simp; omega)
      have j2 : (0 : Int) ≤ (k : Int) := by omega
      have j3 : (k : Int) < (N : Int) := by omega
      have Hts := Lib.hid hts
      have Hbel := Lib.hid hbel
      have hne := HNE.out
      have HNE2 := Lib.hid hne
      clear hts hbel hf1 hf2 tl hne
      go_wp2_with fail
      refine wp_region_v0 14 (GW 73 44 (44 + 1) (.slice ao N acap) (.slice bo N bcap) (a1, a2) (b1, b2) k) _ _ (by kernel_rfl) rfl (by kernel_rfl) (fun _ _ _ h => h) (Or.inl ⟨by rfl, fun w => by go_simp; try rfl⟩) ?_
      simp only [List.take_succ_cons, List.take_zero, List.drop_succ_cons, List.drop_zero]
      go_simp
      have hne := HNE2.out
      repeat (apply wpV_det; (exact rfl); (intro nq; go_simp; rfl); (intro K hK; go_simp; refine hK.use ?_; clear hK K))
      (apply wpV_call; (exact rfl); (intro nq; go_simp; first | exact ⟨rfl, rfl⟩ | rfl); (intro nq; refine (T1.out nq).mono ?_; rintro e w' ⟨rfl, rfl⟩; exact ⟨_, rfl, .inl ⟨rfl, .inl ⟨rfl, rfl⟩⟩, nq, rfl⟩); (rintro u h); (obtain rfl := GW.fst h (by decide) (by decide) hne); clear h; (intro K hK; go_simp; refine hK.use ?_; clear hK K))
      repeat (apply wpV_det; (exact rfl); (intro nq; go_simp; rfl); (intro K hK; go_simp; refine hK.use ?_; clear hK K))
      (apply wpV_call; (exact rfl); (intro nq; go_simp; first | exact ⟨rfl, rfl⟩ | rfl); (intro nq; refine (mul_spec (a1, a2) x Hf1 _).mono ?_; rintro e w' ⟨a, b, mm, rfl, ha, hb, rfl⟩; exact ⟨_, rfl, .inr (.inl ⟨rfl, (a1, a2), x, a, b, rfl, rfl, Prod.ext ha hb⟩), nq + mm, by simp [Nat.add_assoc]⟩); (rintro u h); (obtain ⟨p1, q1, rfl, hM1⟩ := GW.mul (p := (a1, a2)) (q := x) h (by decide) (by decide)); clear h; (intro K hK; go_simp; refine hK.use ?_; clear hK K))
      repeat (apply wpV_det; (exact rfl); (intro nq; go_simp; rfl); (intro K hK; go_simp; refine hK.use ?_; clear hK K))
      (apply wpV_call; (exact rfl); (intro nq; go_simp; first | exact ⟨rfl, rfl⟩ | rfl); (intro nq; refine (T2.out nq).mono ?_; rintro e w' ⟨rfl, rfl⟩; exact ⟨_, rfl, .inl ⟨rfl, .inr ⟨rfl, rfl⟩⟩, nq, rfl⟩); (rintro u h); (obtain rfl := GW.snd h (by decide) (by decide) hne); clear h; (intro K hK; go_simp; refine hK.use ?_; clear hK K))
      repeat (apply wpV_det; (exact rfl); (intro nq; go_simp; rfl); (intro K hK; go_simp; refine hK.use ?_; clear hK K))
      (apply wpV_call; (exact rfl); (intro nq; go_simp; first | exact ⟨rfl, rfl⟩ | rfl); (intro nq; refine (mul_spec (b1, b2) y Hf2 _).mono ?_; rintro e w' ⟨a, b, mm, rfl, ha, hb, rfl⟩; exact ⟨_, rfl, .inr (.inl ⟨rfl, (b1, b2), y, a, b, rfl, rfl, Prod.ext ha hb⟩), nq + mm, by simp [Nat.add_assoc]⟩); (rintro u h); (obtain ⟨p2, q2, rfl, hM2⟩ := GW.mul (p := (b1, b2)) (q := y) h (by decide) (by decide)); clear h; (intro K hK; go_simp; refine hK.use ?_; clear hK K))
      repeat (apply wpV_det; (exact rfl); (intro nq; go_simp; rfl); (intro K hK; go_simp; refine hK.use ?_; clear hK K))
      (refine wpV_cadd .add (.inl rfl) _ _ _ _ rfl _ _ _ _ rfl rfl rfl ?_; intro g1 g2 hg1 hg2; (intro K hK; go_simp; refine hK.use ?_; clear hK K))
      have He := Lib.hid (show nc (g1, g2) = addC (mulC (nc (a1, a2)) (nc x)) (mulC (nc (b1, b2)) (nc y)) by rw [← hM1, ← hM2]; exact Prod.ext hg1 hg2)
      clear hg1 hg2 hM1 hM2
      repeat (apply wpV_det; (exact rfl); (intro nq; go_simp; rfl); (intro K hK; go_simp; refine hK.use ?_; clear hK K))
      refine wpV_nil (fun nq => ?_)
      clear hne car cbr
      go_wp2_with (at_builtin; go_must (refine wpList_pushV (.complex .f32 0 0) 8 hrow infoC rfl rfl (by decide) rfl _ _ rfl Tryz.underlying25 Hl.out (by omega) rfl rfl rfl rfl rfl rfl ?_); intro v1 w1 hr1 hb1 hg1 ho1)
      go_roundw
      case rel => exact ⟨k + 1, ts ++ [(g1, g2)], by omega, by go_num, by rw [← cx_push]; exact hr1, by rw [List.map_append, Hts.out, weigh_succ, List.map_cons, List.map_nil, He.out, ← HG.out], Hbel.out.trans hb1⟩
      case measure => simp [intOf]; omega
    · obtain rfl : k = N := by omega
      have tne : ts ≠ [] := by intro h; rw [h] at tl; simp at tl; omega
      have Hrd := Lib.hid hrow.rd
      have Ht := Lib.hid (show polyF (ts.map nc) = (F, true) by rw [hts, ← HW.out]; exact HF.out)
      have Hbel := Lib.hid hbel
      have Cc5 := Lib.hid ((hbel.cell (p := ⟨w.heap.size + 1 + 1, 0, none⟩) (by simp only; omega)).trans Cc4.out)
      have Fc5 := Lib.hid (show wr.frozen? ⟨w.heap.size + 1 + 1, 0, none⟩ = false by rw [(bcell hbel).2 _ _ (by omega)]; exact Fc4.out)
      obtain ⟨ao3, cap3, rfl, _⟩ := hrow.rd.shape
      rw [cx_length, tl] at Hrd hrow ⊢
      clear hts hbel
      go_wp2_with fail
      (go_at_call 25; ((with_reducible refine (give_spec _ ts _ Hrd.out tne (by omega)).mono ?_)))
      rw [Ht.out]
      rintro e w6 ⟨v6, us, rfl, hus, ho6, hb6⟩
      have B6 := Lib.hid (B3.out.trans ((B4.out.trans (Hbel.out.mono s4)).trans (hb6.mono (by omega)) |>.mono (by omega)))
      have z6 := hb6.size
      have Cc6 := Lib.hid ((hb6.cell (p := ⟨w.heap.size + 1 + 1, 0, none⟩) (by simp only; omega)).trans Cc5.out)
      have Fc6 := Lib.hid (show w6.frozen? ⟨w.heap.size + 1 + 1, 0, none⟩ = false by rw [(bcell hb6).2 _ _ (by omega)]; exact Fc5.out)
      have Ho6 := Lib.hid ho6
      have cc6 := Cc6.out
      have fc6 := Fc6.out
      have zl : w.heap.size + 1 + 1 < w6.heap.size := by omega
      obtain ⟨ao6, cap6, rfl, _⟩ := ho6.rd.shape
      rw [cx_length] at Ho6
      clear ho6 hb6 hrow
      rw [cx_length]
      go_wp2_with fail
      have OF := (own_set (j := 0) Ho6.out (show w.heap.size + 1 + 1 < wr.heap.size by omega) (.slice ao6 us.length cap6)).mono (show w.heap.size ≤ wr.heap.size by omega)
      have RF := Lib.hid OF
      have BF := Lib.hid (B6.out.setCell (p := ⟨w.heap.size + 1 + 1, 0, none⟩) (by simp only; omega) (.slice ao6 us.length cap6))
      have cf := setCell_self cc6 (.slice ao6 us.length cap6)
      clear OF
      generalize w6.setCell ⟨w.heap.size + 1 + 1, 0, none⟩ (.slice ao6 us.length cap6) = WF at *
      refine bodyPost_ret (by simp [results, Tryz.results60, go_sem, cf]; try rfl) rfl ?_
      exact ⟨_, us, rfl, hus, RF.out, BF.out⟩
end Go.Proofs.YtfnhddaofllniaaGreat
