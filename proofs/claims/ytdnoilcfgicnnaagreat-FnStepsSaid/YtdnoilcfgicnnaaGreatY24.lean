/- Laguerre's step, of the reference. Conditions: the values are near those of a simple root. -/
import Derived.Test.YtdnoilcfgicnnaaGreatY21
import Derived.Test.YtdnoilcfgicnnaaGreatY23
import Derived.Test.YtdnoilcfgicnnaaGreatY19
namespace Go.Proofs.YtdnoilcfgicnnaaGreat
open Go Go.RowKit
set_option linter.unusedSimpArgs false
set_option linter.unusedVariables false

set_option maxRecDepth 100000 in
set_option maxHeartbeats 400000 in
theorem sqrt_spec (x : Nat) (Hf : RowKit.Hid (fit1 (sqF (wd (nrm .f32 x))))) (w : World) : Calls Tryz.prog 86 #[.float .f32 x] w (RetF32 (nw (sqF (wd (nrm .f32 x)))) w) := by
  go_enter Tryz.func86, Tryz.ntmps86
  go_wp2_with (with_reducible refine wpList_wid rfl _ rfl _ rfl ?_; intro r mr hr)
  refine (sqrt_lib r _).mono ?_
  rintro e w' ⟨q, m2, rfl, hq, rfl⟩
  rw [hr] at hq
  clear hr
  go_wp2_with fail
  (go_at_call 88; go_must (refine (narrow_spec q (Lib.hid (by rw [hq]; exact Hf.out)) _).mono ?_); rintro e w' ⟨s, ms, rfl, hs, rfl⟩)
  rw [hq] at hs
  clear hq
  go_wp2_with fail
  go_ret
  exact ⟨_, _, rfl, hs, by first | rfl | (simp; rfl)⟩
set_option maxRecDepth 100000 in
set_option maxHeartbeats 400000 in
theorem times2_spec (x : C2) (b : Nat) (w : World) : Calls Tryz.prog 82 #[.complex .f32 x.1 x.2, .float .f32 b] w (RetX (scaleC (nc x) (nrm .f32 b)) w) := by
  go_enter Tryz.func82, Tryz.ntmps82
  go_wp2_with (with_reducible refine wpList_fop rfl _ _ _ _ _ rfl rfl .f32 _ _ rfl rfl ?_; intro r mr hr)
  go_ret
  exact ⟨_, _, _, rfl, by simp only [scaleC, nc, *], by simp only [scaleC, nc, *], by first | rfl | (simp; rfl)⟩
set_option maxRecDepth 100000 in
set_option maxHeartbeats 1600000 in
theorem values2_spec (p : Nat) (v : Value) (rs S T : List C2) (z V V1 V2 : C2) (w : World) (hp : w.cell? ⟨p, 0, none⟩ = some v) (hv : RdV w v (cx rs)) (h1 : 1 ≤ rs.length) (h2 : rs.length ≤ 17) (HV : RowKit.Hid (ValOk (rs.map nc) S T (nc z) V V1 V2)) (hz : zeroC V = false) :
    Calls Tryz.prog 80 #[.pointer (some ⟨p, 0, none⟩), .complex .f32 z.1 z.2, .bool true] w (RetVals V V1 V2 w) := by
  have lp : p < w.heap.size := World.block_lt_of_cell? _ _ hp
  obtain ⟨ao, cap, rfl, _⟩ := hv.shape
  rw [cx_length] at hv hp
  have Hv := Lib.hid hv
  clear hv
  have Pspec := Lib.hid (fun v w hv => polyAt_spec v rs z w hv h1 h2 (Lib.hid fun _ _ => HV.out.sF))
  have Sspec := Lib.hid (fun v w hv => slope_spec v rs w hv h1 h2)
  rw [HV.out.aF] at Pspec
  rw [HV.out.pS] at Sspec
  go_enter Tryz.func80, Tryz.ntmps80
  go_wp2_with fail
  (go_at_call 19; go_must (refine (Pspec.out _ _ Hv.out).mono ?_); rintro e w' ⟨a, b, rfl, ha, hb, hb1⟩)
  have BB := Lib.hid hb1
  have Hab := Lib.hid (show nc (a, b) = V from Prod.ext ha hb)
  have W1 := Lib.hid (Hv.out.below hb1)
  replace hp := celT hp hb1
  replace lp := World.block_lt_of_cell? _ _ hp
  have hz2 : zeroC (nc (a, b)) = false := by rw [Hab.out]; exact hz
  clear hb1 ha hb
  dsimp only at lp ⊢
  go_wp2_with fail
  (go_at_call 106; go_must (refine (Sspec.out _ _ W1.out).mono ?_); rintro e w' ⟨v2, qs, rfl, hqs, ho2, hb1⟩)
  replace BB := Lib.hid (belT BB.out BB.out.size hb1)
  dsimp only at hqs ⊢
  have Hqs := Lib.hid hqs
  have W2 := Lib.hid ho2.rd
  clear hb1 hqs ho2 hp lp W1 hz2
  obtain ⟨ao2, cap2, rfl, _⟩ := W2.out.shape
  rw [cx_length] at W2 ⊢
  have hq := lenq Hqs.out HV.out.lS
  go_wp2_with fail
  (go_at_call 19; go_must (refine (polyAt_spec _ qs z _ (W2.out.alloc _) hq.1 hq.2 (Lib.hid fun _ _ => by rw [Hqs.out]; exact HV.out.sS)).mono ?_); rintro e w' ⟨c, d, rfl, hc, hd, hb1⟩)
  rw [Hqs.out, HV.out.aS] at hc hd ⊢
  have Hcd := Lib.hid (show nc (c, d) = V1 from Prod.ext hc hd)
  have x8 := celN hb1
  replace BB := Lib.hid (belA BB.out BB.out.size hb1)
  replace W2 := Lib.hid ((W2.out.alloc _).below hb1)
  have l8 := World.block_lt_of_cell? _ _ x8
  dsimp only at l8 ⊢
  clear hb1 hc hd
  go_wp2_with fail
  (go_at_call 106; go_must (refine (slope_spec _ qs _ W2.out hq.1 hq.2).mono ?_); rintro e w' ⟨v3, ts, rfl, hts, ho3, hb1⟩)
  rw [Hqs.out, HV.out.pT] at hts ⊢
  replace BB := Lib.hid (belT BB.out BB.out.size hb1)
  dsimp only at hts ⊢
  have Hts := Lib.hid hts
  have W3 := Lib.hid ho3.rd
  clear hb1 hts ho3 x8 l8 W2
  obtain ⟨ao3, cap3, rfl, _⟩ := W3.out.shape
  rw [cx_length] at W3 ⊢
  have ht := lenq Hts.out HV.out.lT
  go_wp2_with fail
  (go_at_call 19; go_must (refine (polyAt_spec _ ts z _ (W3.out.alloc _) ht.1 ht.2 (Lib.hid fun _ _ => by rw [Hts.out]; exact HV.out.sT)).mono ?_); rintro e w' ⟨g, h, rfl, hg, hh, hb1⟩)
  rw [Hts.out, HV.out.aT] at hg hh ⊢
  have Hgh := Lib.hid (show nc (g, h) = V2 from Prod.ext hg hh)
  replace BB := Lib.hid (belA BB.out BB.out.size hb1)
  clear hb1 hg hh
  dsimp only
  go_wp2_with fail
  (try simp only [Exit.inBlock, Exit.then]); refine bodyPost_ret (by simp [results, Tryz.results80, go_sem, *]; try rfl) rfl ?_
  exact ⟨_, _, _, _, _, _, rfl, Hab.out, Hcd.out, Hgh.out, BB.out⟩
set_option maxRecDepth 100000 in
set_option maxHeartbeats 3200000 in
theorem lag_spec (p : Nat) (v : Value) (rs S T : List C2) (z V V1 V2 : C2) (n : Nat) (w : World) (hp : w.cell? ⟨p, 0, none⟩ = some v) (hv : RdV w v (cx rs)) (hn : rs.length = n + 1) (HV : RowKit.Hid (ValOk (rs.map nc) S T (nc z) V V1 V2)) (hz : zeroC V = false) (HL : RowKit.Hid (LagOk n (nc z) V V1 V2)) :
    Calls Tryz.prog 49 #[.pointer (some ⟨p, 0, none⟩), .complex .f32 z.1 z.2] w (RetLag n (nc z) V V1 V2 w) := by
  have n0 := nrm0
  have h1 : 1 ≤ rs.length := by omega
  have h2 : rs.length ≤ 17 := by have := HL.out.n4; omega
  have hn4 := HL.out.n4
  have Kp := Lib.hid (kf_pred HL.out.n1 HL.out.n4)
  have e : IntKind.i64.wrap (((n + 1 : Nat) : Int) - 1) = (n : Int) := by rw [show ((n + 1 : Nat) : Int) - 1 = (n : Int) by omega]; exact IntWalk.i64_in _ ⟨by omega, by omega⟩
  have lp : p < w.heap.size := World.block_lt_of_cell? _ _ hp
  obtain ⟨ao, cap, rfl, _⟩ := hv.shape
  rw [cx_length] at hv hp
  have Q := Lib.hid (values2_spec p _ rs S T z V V1 V2 w hp hv h1 h2 HV hz)
  rw [hn] at hp
  clear hv h1 h2 hn
  go_enter Tryz.func49, Tryz.ntmps49
  go_wp2_with fail
  (go_at_call 80; go_must (refine (Q.out).mono ?_); rintro e w' ⟨a, b, c, d, g, h, rfl, hab, hcd, hgh, hb1⟩)
  have BB := Lib.hid hb1
  replace hp := celT hp hb1
  replace lp := World.block_lt_of_cell? _ _ hp
  have Hab := Lib.hid hab
  have Hcd := Lib.hid hcd
  have Hgh := Lib.hid hgh
  have hz2 : zeroC (nc (a, b)) = false := by rw [hab]; exact hz
  clear hb1 hab hcd hgh Q
  dsimp only at lp ⊢
  go_wp2_with fail
  (go_at_call 81; go_must (refine (quo_spec (c, d) (a, b) (Lib.hid (by rw [Hab.out, Hcd.out]; exact HL.out.f1)) _).mono ?_); rintro e w' ⟨p1, q1, m1, rfl, hp1, hq1, rfl⟩)
  have A := Lib.hid (show nc (p1, q1) = lagA V V1 by unfold lagA; rw [← Hab.out, ← Hcd.out]; exact Prod.ext hp1 hq1)
  clear hp1 hq1 hp lp hz2 e
  go_wp2_with fail
  (go_at_call 81; go_must (refine (quo_spec (g, h) (a, b) (Lib.hid (by rw [Hab.out, Hgh.out]; exact HL.out.f2)) _).mono ?_); rintro e w' ⟨p2, q2, m2, rfl, hp, hq, rfl⟩)
  have C := Lib.hid (show nc (p2, q2) = lagC V V2 by unfold lagC; rw [← Hab.out, ← Hgh.out]; exact Prod.ext hp hq)
  clear hp hq Hab Hcd Hgh
  go_wp2_with fail
  (go_at_call 54; go_must (refine (cfin1_spec (p1, q1) _).mono ?_); rintro e w' ⟨mf1, rfl, rfl⟩)
  rw [A.out, HL.out.a]
  go_wp2_with fail
  (go_at_call 54; go_must (refine (cfin1_spec (p2, q2) _).mono ?_); rintro e w' ⟨mf2, rfl, rfl⟩)
  rw [C.out, HL.out.c]
  go_wp2_with fail
  (go_at_call 61; go_must (refine (mul_spec (p1, q1) (p1, q1) (Lib.hid (by rw [A.out]; exact HL.out.f3)) _).mono ?_); rintro e w' ⟨p3, q3, m3, rfl, hp, hq, rfl⟩)
  have S3 := Lib.hid (show nc (p3, q3) = lagS V V1 by unfold lagS; rw [← A.out]; exact Prod.ext hp hq)
  clear hp hq
  go_wp2_with (with_reducible refine wpList_cadd rfl .sub (.inr rfl) _ _ _ _ rfl _ _ _ _ rfl rfl ?_; intro p4 q4 mp4 hp hq)
  have B4 := Lib.hid (show nc (p4, q4) = subC (lagS V V1) (lagC V V2) by rw [← S3.out, ← C.out]; exact Prod.ext hp hq)
  clear hp hq
  (go_at_call 82; go_must (refine (times2_spec (p4, q4) (floatOfInt .f32 (n : Int)) _).mono ?_); rintro e w' ⟨p5, q5, m5, rfl, hp, hq, rfl⟩)
  have B5 := Lib.hid (show nc (p5, q5) = scaleC (subC (lagS V V1) (lagC V V2)) (kf n) by rw [← B4.out]; exact Prod.ext hp hq)
  clear hp hq B4
  go_wp2_with (first | (with_reducible refine wpList_cadd rfl .sub (.inr rfl) _ _ _ _ rfl _ _ _ _ rfl rfl ?_; intro p6 q6 mp6 hp hq) | (with_reducible refine wpList_fop rfl _ _ _ _ _ rfl rfl .f32 _ _ rfl rfl ?_; intro k mk hk))
  have B6 := Lib.hid (show nc (p6, q6) = subC (scaleC (subC (lagS V V1) (lagC V V2)) (kf n)) (lagS V V1) by rw [← B5.out, ← S3.out]; exact Prod.ext hp hq)
  clear hp hq B5 S3
  (go_at_call 82; go_must (refine (times2_spec (p6, q6) k _).mono ?_); rintro e w' ⟨p7, q7, m7, rfl, hp, hq, rfl⟩)
  have X := Lib.hid (show nc (p7, q7) = lagX n V V1 V2 by unfold lagX; rw [← B6.out, ← Kp.out, ← hk]; exact Prod.ext hp hq)
  clear hp hq B6 hk
  go_wp2_with fail
  (go_at_call 54; go_must (refine (cfin1_spec (p7, q7) _).mono ?_); rintro e w' ⟨mf3, rfl, rfl⟩)
  rw [X.out, HL.out.x]
  go_wp2_with fail
  (go_at_call 83; go_must (refine (angleOf_spec (p7, q7) _ (HL.out.ang _ X.out)).mono ?_); rintro e w' ⟨r, mr, rfl, hr, rfl⟩)
  have Hr := Lib.hid hr
  clear hr
  go_wp2_with (first | (with_reducible refine wpList_fop rfl _ _ _ _ _ rfl rfl .f32 _ _ rfl rfl ?_; intro u mu hu) | (with_reducible refine wpList_wid rfl _ rfl _ rfl ?_; intro y my hy; have HI := Lib.hid (half_in Hr.out hu hy).2))
  clear hy hu
  (go_at_call 85; go_must (refine (phasor_spec y _ HI.out).mono ?_); rintro e w' ⟨f1, f2, mp, rfl, hph, rfl⟩)
  have P := Lib.hid hph
  clear hph
  go_wp2_with fail
  (go_at_call 50; go_must (refine (long_spec (p7, q7) (Lib.hid (by rw [X.out]; exact HL.out.l1)) _).mono ?_); rintro e w' ⟨l, ml, rfl, hl, rfl⟩)
  rw [X.out] at hl
  go_wp2_with fail
  (go_at_call 86; go_must (refine (sqrt_spec l (Lib.hid (by rw [hl]; exact HL.out.l2)) _).mono ?_); rintro e w' ⟨s, ms, rfl, hs, rfl⟩)
  rw [hl] at hs
  clear hl
  go_wp2_with fail
  (go_at_call 84; go_must (refine (scale_spec (f1, f2) s _).mono ?_); rintro e w' ⟨p8, q8, m8, rfl, hp, hq, rfl⟩)
  have R := Lib.hid (show nc (p8, q8) = lagR n V V1 V2 (nc (f1, f2)) by unfold lagR lagRho; rw [← hs]; exact Prod.ext hp hq)
  have FIN := Lib.hid (HL.out.fin _ P.out)
  clear hp hq hs X
  go_wp2_with (first | (with_reducible refine wpList_cadd rfl .add (.inl rfl) _ _ _ _ rfl _ _ _ _ rfl rfl ?_; intro p9 q9 mp9 hp9 hq9) | (with_reducible refine wpList_cadd rfl .sub (.inr rfl) _ _ _ _ rfl _ _ _ _ rfl rfl ?_; intro p10 q10 mp10 hp hq))
  have G := Lib.hid (show nc (p9, q9) = lagG n V V1 V2 (nc (f1, f2)) by unfold lagG; rw [← A.out, ← R.out]; exact Prod.ext hp9 hq9)
  have H := Lib.hid (show nc (p10, q10) = lagH n V V1 V2 (nc (f1, f2)) by unfold lagH; rw [← A.out, ← R.out]; exact Prod.ext hp hq)
  clear hp hq hp9 hq9 R
  (go_at_call 50; go_must (refine (long_spec (p10, q10) (Lib.hid (by rw [H.out]; exact FIN.out.2.1)) _).mono ?_); rintro e w' ⟨l1, ml1, rfl, hl1, rfl⟩)
  rw [H.out] at hl1
  go_wp2_with fail
  (go_at_call 50; go_must (refine (long_spec (p9, q9) (Lib.hid (by rw [G.out]; exact FIN.out.1)) _).mono ?_); rintro e w' ⟨l2, ml2, rfl, hl2, rfl⟩)
  rw [G.out] at hl2
  have hgt : fcmp .gtr .f32 (nrm .f32 l1) (nrm .f32 l2) = false := by rw [hl1, hl2]; exact FIN.out.2.2.1
  clear hl1 hl2
  go_wp2_with fail
  (go_at_call 81; go_must (refine (quo_spec (floatOfInt .f32 (n : Int), 0) (p9, q9) (Lib.hid (by rw [G.out, show nc (floatOfInt .f32 (n : Int), 0) = (kf n, 0) from Prod.ext rfl n0]; exact FIN.out.2.2.2.1)) _).mono ?_); rintro e w' ⟨p11, q11, m11, rfl, hp, hq, rfl⟩)
  have Q := Lib.hid (show nc (p11, q11) = lagQ n V V1 V2 (nc (f1, f2)) by unfold lagQ; rw [← G.out, ← show nc (floatOfInt .f32 (n : Int), 0) = (kf n, 0) from Prod.ext rfl n0]; exact Prod.ext hp hq)
  clear hp hq H hgt
  go_wp2_with fail
  (go_at_call 54; go_must (refine (cfin1_spec (p11, q11) _).mono ?_); rintro e w' ⟨mf4, rfl, rfl⟩)
  rw [Q.out, FIN.out.2.2.2.2.1]
  clear A C G
  go_wp2_with (with_reducible refine wpList_cadd rfl .sub (.inr rfl) _ _ _ _ rfl _ _ _ _ rfl rfl ?_; intro p12 q12 mp12 hp hq)
  have H8 := Lib.hid (show nc (p12, q12) = subC (nc z) (lagQ n V V1 V2 (nc (f1, f2))) by rw [← Q.out]; exact Prod.ext hp hq)
  clear hp hq
  (go_at_call 87; go_must (refine (number_spec (p12, q12) _).mono ?_); rintro e w' ⟨r1, r2, rfl, hr1, hr2, hb1⟩)
  rw [H8.out, show finiteX (subC (nc z) (lagQ n V V1 V2 (nc (f1, f2)))) = (subC (nc z) (lagQ n V V1 V2 (nc (f1, f2))), true) by unfold finiteX; rw [if_pos FIN.out.2.2.2.2.2]] at hr1 hr2 ⊢
  replace BB := Lib.hid (belT (below_drewN BB.out _) BB.out.size hb1)
  have Hr := Lib.hid (show nc (r1, r2) = subC (nc z) (lagQ n V V1 V2 (nc (f1, f2))) from Prod.ext hr1 hr2)
  clear hr1 hr2 hb1
  dsimp only
  go_wp2_with fail
  go_ret2
  exact ⟨_, _, _, rfl, P.out, Hr.out, BB.out⟩
set_option maxRecDepth 100000 in
set_option maxHeartbeats 800000 in
theorem laguerre_spec (v : Value) (rs S T : List C2) (z V V1 V2 : C2) (n : Nat) (w : World) (hv : RdV w v (cx rs)) (hn : rs.length = n + 1) (HV : RowKit.Hid (ValOk (rs.map nc) S T (nc z) V V1 V2)) (hz : zeroC V = false) (HL : RowKit.Hid (LagOk n (nc z) V V1 V2)) :
    Calls Tryz.prog 16 #[.agg #[v], .complex .f32 z.1 z.2] w (RetLag n (nc z) V V1 V2 w) := by
  have h1 : 1 ≤ rs.length := by omega
  have h2 : rs.length ≤ 17 := by have := HL.out.n4; omega
  obtain ⟨ao, cap, rfl, _⟩ := hv.shape
  rw [cx_length] at hv ⊢
  have Hv := Lib.hid hv
  clear hv
  have P := Lib.hid (show (w.alloc (.cells #[.slice ao rs.length cap] 28)).cell? ⟨w.heap.size, 0, none⟩ = some (.slice ao rs.length cap) from World.cell?_alloc_new w #[.slice ao rs.length cap] 28 0)
  have HQ := Lib.hid (fun m => lag_spec w.heap.size (.slice ao rs.length cap) rs S T z V V1 V2 n ((w.alloc (.cells #[.slice ao rs.length cap] 28)).drewN m) P.out (Hv.out.alloc _) hn HV hz HL)
  clear hn
  go_enter Tryz.func16, Tryz.ntmps16
  go_wp2_with (go_at_call 33; go_must (refine (can_spec w.heap.size _ rs z _ P.out (Hv.out.alloc _) h1 h2 HV.out.r HV.out.fz).mono ?_); rintro e w' ⟨m, rfl, rfl⟩)
  (go_at_call 49; ((with_reducible refine (HQ.out _).mono ?_)))
  rintro e w' ⟨a, b, ph, rfl, hph, ha, hb⟩
  have Ha := Lib.hid ha
  have Hp := Lib.hid hph
  have BB := Lib.hid ((below_drewN ((Below.refl w.heap.size w).alloc (Nat.le_refl _) _) _).trans (hb.mono (by simp)))
  clear ha hb hph
  go_wp2_with fail
  go_ret2
  exact ⟨_, _, ph, rfl, Hp.out, Ha.out, BB.out⟩
end Go.Proofs.YtdnoilcfgicnnaaGreat
