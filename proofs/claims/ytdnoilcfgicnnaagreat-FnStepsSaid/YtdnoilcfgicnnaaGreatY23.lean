/- Laguerre's step, of the program. Conditions: the values are near those of a simple root. -/
import Derived.Test.YtdnoilcfgicnnaaGreatY21
import Derived.Test.YtdnoilcfgicnnaaGreatY20
import Derived.Test.YtdnoilcfgicnnaaGreatY22
namespace Go.Proofs.YtdnoilcfgicnnaaGreat
open Go Go.RowKit
set_option linter.unusedSimpArgs false
set_option linter.unusedVariables false

theorem rd_c3 {w : World} {s : Nat} (hs : s = w.heap.size) (x y z : C2) : RdV (w.alloc (.cells #[.complex .f32 x.1 x.2, .complex .f32 y.1 y.2, .complex .f32 z.1 z.2] 36)) (.slice (some ⟨s, 0, none⟩) 3 3) (cx [x, y, z]) := by
  subst hs
  refine ⟨_, 3, rfl, ⟨Nat.le_refl _, by decide⟩, .inr ⟨w.heap.size, 0, rfl, fun i hi => ?_⟩⟩
  have h := World.cell?_alloc_new w #[.complex .f32 x.1 x.2, .complex .f32 y.1 y.2, .complex .f32 z.1 z.2] 36 i
  have hc : i = 0 ∨ i = 1 ∨ i = 2 := by simp at hi; omega
  rcases hc with rfl | rfl | rfl <;> exact h
set_option maxRecDepth 100000 in
set_option maxHeartbeats 400000 in
theorem rootNumber_impl (x : Nat) (Hf : RowKit.Hid (fit1 (sqF (wd (nrm .f32 x))))) (w : World) : Calls Tryz.prog 78 #[.float .f32 x] w (RetF32 (nw (sqF (wd (nrm .f32 x)))) w) := by
  go_enter Tryz.func78, Tryz.ntmps78
  go_wp2_with (with_reducible refine wpList_wid rfl _ rfl _ rfl ?_; intro r mr hr)
  refine (sqrt_lib r _).mono ?_
  rintro e w' ⟨q, m2, rfl, hq, rfl⟩
  rw [hr] at hq
  clear hr
  go_wp2_with (with_reducible refine wpList_nar rfl _ rfl _ rfl (by rw [hq]; exact Hf.out) ?_; intro r2 mr2 hr2)
  go_ret
  exact ⟨_, _, rfl, by rw [hr2, hq], by first | rfl | (simp; rfl)⟩
def RetRoot (x : C2) (w : World) (e : Ending) (w' : World) : Prop := ∃ a b ph, e = .returned (.complex .f32 a b) ∧ PhOk ph ∧ nc (a, b) = scaleC ph (nw (sqF (wd (longF x)))) ∧ Below w.heap.size w w'
set_option maxRecDepth 100000 in
set_option maxHeartbeats 800000 in
theorem rootOf_impl (p : C2) (w : World) (ha : AngC p) (F1 : RowKit.Hid (fit1 (sqF (powerF (nc p))))) (F2 : RowKit.Hid (fit1 (sqF (wd (longF (nc p)))))) : Calls Tryz.prog 46 #[.complex .f32 p.1 p.2] w (RetRoot (nc p) w) := by
  have HA := Lib.hid ha
  clear ha
  go_enter Tryz.func46, Tryz.ntmps46
  go_wp2_with fail
  (go_at_call 77; go_must (refine (angleOf_impl p _ HA.out).mono ?_); rintro e w' ⟨r, rfl, hr, hb1⟩)
  have Hr := Lib.hid hr
  have BB := Lib.hid hb1
  clear hr hb1
  go_wp2_with (first | (with_reducible refine wpList_fop rfl _ _ _ _ _ rfl rfl .f32 _ _ rfl rfl ?_; intro h mh hh) | (with_reducible refine wpList_wid rfl _ rfl _ rfl ?_; intro y my hy; have HI := Lib.hid (half_in Hr.out hh hy)))
  clear hy hh
  (go_at_call 76; go_must (refine (phasor_impl y _ HI.out.1 HI.out.2).mono ?_); rintro e w' ⟨a, b, mp, rfl, hp, rfl⟩)
  have Hp := Lib.hid hp
  clear hp
  go_wp2_with fail
  (go_at_call 48; go_must (refine (long_impl p F1 _).mono ?_); rintro e w' ⟨l, ml, rfl, hl, rfl⟩)
  go_wp2_with fail
  (go_at_call 78; go_must (refine (rootNumber_impl l (Lib.hid (by rw [hl]; exact F2.out)) _).mono ?_); rintro e w' ⟨s, ms, rfl, hs, rfl⟩)
  rw [hl] at hs
  have Hs := Lib.hid hs
  clear hs hl
  go_wp2_with fail
  (go_at_call 43; go_must (refine (scale_impl (a, b) s _).mono ?_); rintro e w' ⟨c, d, mc, rfl, hc, hd, rfl⟩)
  rw [Hs.out] at hc hd
  have Hcd := Lib.hid (show nc (c, d) = scaleC (nc (a, b)) (nw (sqF (wd (longF (nc p))))) from Prod.ext hc hd)
  clear hc hd
  go_wp2_with fail
  go_ret
  exact ⟨_, _, _, rfl, Hp.out, Hcd.out, by (repeat refine below_drewN ?_ _); exact BB.out⟩
set_option maxRecDepth 100000 in
set_option maxHeartbeats 400000 in
theorem degree_impl (v : Value) (rs : List C2) (n : Nat) (w : World) (hv : RdV w v (cx rs)) (hn : rs.length = n + 1) (h2 : n ≤ 16) : Calls Tryz.prog 45 #[.agg #[v]] w fun e w' => e = .returned (.int .i64 (n : Int)) ∧ Below w.heap.size w w' := by
  obtain ⟨ao, cap, rfl, _⟩ := hv.shape
  rw [cx_length, hn] at hv ⊢
  clear hv
  have e : IntKind.i64.wrap (((n + 1 : Nat) : Int) - 1) = (n : Int) := by rw [show ((n + 1 : Nat) : Int) - 1 = (n : Int) by omega]; exact IntWalk.i64_in _ ⟨by omega, by omega⟩
  go_enter Tryz.func45, Tryz.ntmps45
  go_wp2_with fail
  go_ret
  exact ⟨by first | rfl | (rw [e]) | (simp [e]), by first | exact (Below.refl _ _).alloc (Nat.le_refl _) _ | (repeat' (first | (with_reducible exact Below.refl _ _) | (with_reducible assumption) | (with_reducible refine Below.alloc ?_ ?_ _) | (with_reducible refine Below.setCell ?_ ?_ _) | (with_reducible refine below_drewN ?_ _) | (with_reducible refine Below.via (by assumption) ?_ ?_) | go_size))⟩
def RetLag (n : Nat) (z V V1 V2 : C2) (w : World) (e : Ending) (w' : World) : Prop := ∃ a b ph, e = .returned (.tuple #[.complex .f32 a b, .bool true]) ∧ PhOk ph ∧ nc (a, b) = subC z (lagQ n V V1 V2 ph) ∧ Below w.heap.size w w'
set_option maxRecDepth 100000 in
set_option maxHeartbeats 3200000 in
theorem laguerre_impl (v : Value) (rs S T : List C2) (z V V1 V2 : C2) (n : Nat) (w : World) (hv : RdV w v (cx rs)) (hn : rs.length = n + 1) (HV : RowKit.Hid (ValOk (rs.map nc) S T (nc z) V V1 V2)) (hz : zeroC V = false) (HL : RowKit.Hid (LagOk n (nc z) V V1 V2)) :
    Calls Tryz.prog 15 #[.agg #[v], .complex .f32 z.1 z.2] w (RetLag n (nc z) V V1 V2 w) := by
  have n0 := nrm0
  have h1 : 1 ≤ rs.length := by omega
  have h2 : rs.length ≤ 17 := by have := HL.out.n4; omega
  have Kp := Lib.hid (kf_pred HL.out.n1 HL.out.n4)
  have Di := Lib.hid (fun v w hv => degree_impl v rs n w hv hn (by have := HL.out.n4; omega))
  obtain ⟨ao, cap, rfl, _⟩ := hv.shape
  rw [cx_length] at hv ⊢
  have Hv := Lib.hid hv
  clear hv
  have Qimpl := Lib.hid (fun v w hv => valuesAt_impl v rs S T z V V1 V2 w hv h1 h2 HV)
  have Iimpl := Lib.hid (fun v w hv => isRootAt_impl v rs z V w hv h1 h2 HV.out.sF HV.out.aF hz)
  have Rimpl := Lib.hid (fun v w hv => rooted_impl v rs w hv h1 h2)
  rw [HV.out.r] at Rimpl
  have Hz := Lib.hid hz
  clear hz hn h1 h2
  go_enter Tryz.func15, Tryz.ntmps15
  go_wp2_with fail
  (go_at_call 27; go_must (refine (Rimpl.out _ _ (Hv.out.alloc _)).mono ?_); rintro e w' ⟨rfl, hb1⟩)
  have x2 := celN hb1
  have BB := Lib.hid (belA (Below.refl w.heap.size w) (Nat.le_refl _) hb1)
  have W1 := Lib.hid ((Hv.out.alloc _).below hb1)
  have l2 := World.block_lt_of_cell? _ _ x2
  clear hb1
  dsimp only at l2
  go_wp2_with fail
  (go_at_call 41; go_must (refine (Iimpl.out _ _ W1.out).mono ?_); rintro e w' ⟨rfl, hb1⟩)
  replace BB := Lib.hid (belT BB.out BB.out.size hb1)
  replace W1 := Lib.hid (W1.out.below hb1)
  replace x2 := celT x2 hb1
  replace l2 := World.block_lt_of_cell? _ _ x2
  clear hb1
  dsimp only at l2
  go_wp2_with fail
  (go_at_call 42; go_must (refine (Qimpl.out _ _ W1.out).mono ?_); rintro e w' ⟨a, b, c, d, g, h, rfl, hab, hcd, hgh, hb1⟩)
  replace BB := Lib.hid (belT BB.out BB.out.size hb1)
  replace W1 := Lib.hid (W1.out.below hb1)
  replace x2 := celT x2 hb1
  replace l2 := World.block_lt_of_cell? _ _ x2
  dsimp only at l2
  have Hab := Lib.hid hab
  have Hcd := Lib.hid hcd
  have Hgh := Lib.hid hgh
  clear hb1 hab hcd hgh
  go_wp2_with fail
  (go_at_call 45; go_must (refine (Di.out _ _ W1.out).mono ?_); rintro e w' ⟨rfl, hb1⟩)
  replace BB := Lib.hid (belT BB.out BB.out.size hb1)
  have lw := BB.out.size
  have Hd := Lib.hid (show nrm .f32 (floatOfInt .f32 (n : Int)) = kf n from rfl)
  clear hb1 x2 l2 W1
  go_wp2_with fail
  (go_at_call 38; go_must (refine (quo_impl (c, d) (a, b) (Lib.hid (by rw [Hab.out, Hcd.out]; exact HL.out.f1)) _).mono ?_); rintro e w' ⟨p1, q1, m1, rfl, hp, hq, rfl⟩)
  have A := Lib.hid (show nc (p1, q1) = lagA V V1 by unfold lagA; rw [← Hab.out, ← Hcd.out]; exact Prod.ext hp hq)
  clear hp hq
  go_wp2_with fail
  (go_at_call 38; go_must (refine (quo_impl (g, h) (a, b) (Lib.hid (by rw [Hab.out, Hgh.out]; exact HL.out.f2)) _).mono ?_); rintro e w' ⟨p2, q2, m2, rfl, hp, hq, rfl⟩)
  have C := Lib.hid (show nc (p2, q2) = lagC V V2 by unfold lagC; rw [← Hab.out, ← Hgh.out]; exact Prod.ext hp hq)
  clear hp hq Hab Hcd Hgh
  go_wp2_with fail
  (go_at_call 44; go_must (refine (mul_impl (p1, q1) (p1, q1) (Lib.hid (by rw [A.out]; exact HL.out.f3)) _).mono ?_); rintro e w' ⟨p3, q3, m3, rfl, hp, hq, rfl⟩)
  have S3 := Lib.hid (show nc (p3, q3) = lagS V V1 by unfold lagS; rw [← A.out]; exact Prod.ext hp hq)
  clear hp hq
  go_wp2_with fail
  (go_at_call 40; go_must (refine (minus_impl (p3, q3) (p2, q2) _).mono ?_); rintro e w' ⟨p4, q4, m4, rfl, hp, hq, rfl⟩)
  have B4 := Lib.hid (show nc (p4, q4) = subC (lagS V V1) (lagC V V2) by rw [← S3.out, ← C.out]; exact Prod.ext hp hq)
  clear hp hq
  go_wp2_with fail
  (go_at_call 43; go_must (refine (scale_impl (p4, q4) (floatOfInt .f32 (n : Int)) _).mono ?_); rintro e w' ⟨p5, q5, m5, rfl, hp, hq, rfl⟩)
  have B5 := Lib.hid (show nc (p5, q5) = scaleC (subC (lagS V V1) (lagC V V2)) (kf n) by rw [← B4.out]; exact Prod.ext hp hq)
  clear hp hq B4
  go_wp2_with fail
  (go_at_call 40; go_must (refine (minus_impl (p5, q5) (p3, q3) _).mono ?_); rintro e w' ⟨p6, q6, m6, rfl, hp, hq, rfl⟩)
  have B6 := Lib.hid (show nc (p6, q6) = subC (scaleC (subC (lagS V V1) (lagC V V2)) (kf n)) (lagS V V1) by rw [← B5.out, ← S3.out]; exact Prod.ext hp hq)
  clear hp hq B5 S3
  go_wp2_with (with_reducible refine wpList_fop rfl _ _ _ _ _ rfl rfl .f32 _ _ rfl rfl ?_; intro k mk hk)
  (go_at_call 43; go_must (refine (scale_impl (p6, q6) k _).mono ?_); rintro e w' ⟨p7, q7, m7, rfl, hp, hq, rfl⟩)
  have X := Lib.hid (show nc (p7, q7) = lagX n V V1 V2 by unfold lagX; rw [← B6.out, ← Kp.out, ← hk]; exact Prod.ext hp hq)
  clear hp hq B6 hk
  go_wp2_with fail
  (go_at_call 46; go_must (refine (rootOf_impl (p7, q7) _ (HL.out.ang _ X.out) (Lib.hid (by rw [X.out]; exact HL.out.l1)) (Lib.hid (by rw [X.out]; exact HL.out.l2))).mono ?_); rintro e w' ⟨p8, q8, ph, rfl, hph, hr, hb1⟩)
  rw [X.out] at hr
  have R := Lib.hid (show nc (p8, q8) = lagR n V V1 V2 ph from hr)
  have P := Lib.hid hph
  have FIN := Lib.hid (HL.out.fin ph hph)
  replace BB := Lib.hid (belT (below_drewN BB.out _) (by simpa using lw) hb1)
  have lw2 := BB.out.size
  clear hr hph hb1 X lw
  go_wp2_with fail
  (go_at_call 47; go_must (refine (plus_impl (p1, q1) (p8, q8) _).mono ?_); rintro e w' ⟨p9, q9, m9, rfl, hp, hq, rfl⟩)
  have G := Lib.hid (show nc (p9, q9) = lagG n V V1 V2 ph by unfold lagG; rw [← A.out, ← R.out]; exact Prod.ext hp hq)
  clear hp hq
  go_wp2_with fail
  (go_at_call 40; go_must (refine (minus_impl (p1, q1) (p8, q8) _).mono ?_); rintro e w' ⟨p10, q10, m10, rfl, hp, hq, rfl⟩)
  have H := Lib.hid (show nc (p10, q10) = lagH n V V1 V2 ph by unfold lagH; rw [← A.out, ← R.out]; exact Prod.ext hp hq)
  clear hp hq R
  go_wp2_with fail
  (go_at_call 48; go_must (refine (long_impl (p10, q10) (Lib.hid (by rw [H.out]; exact FIN.out.2.1)) _).mono ?_); rintro e w' ⟨l1, ml1, rfl, hl1, rfl⟩)
  rw [H.out] at hl1
  go_wp2_with fail
  (go_at_call 48; go_must (refine (long_impl (p9, q9) (Lib.hid (by rw [G.out]; exact FIN.out.1)) _).mono ?_); rintro e w' ⟨l2, ml2, rfl, hl2, rfl⟩)
  rw [G.out] at hl2
  have hgt : fcmp .gtr .f32 (nrm .f32 l1) (nrm .f32 l2) = false := by rw [hl1, hl2]; exact FIN.out.2.2.1
  clear hl1 hl2
  go_wp2_with fail
  (go_at_call 38; go_must (refine (quo_impl (floatOfInt .f32 (n : Int), 0) (p9, q9) (Lib.hid (by rw [G.out, show nc (floatOfInt .f32 (n : Int), 0) = (kf n, 0) from Prod.ext rfl n0]; exact FIN.out.2.2.2.1)) _).mono ?_); rintro e w' ⟨p11, q11, m11, rfl, hp, hq, rfl⟩)
  have Q := Lib.hid (show nc (p11, q11) = lagQ n V V1 V2 ph by unfold lagQ; rw [← G.out, ← show nc (floatOfInt .f32 (n : Int), 0) = (kf n, 0) from Prod.ext rfl n0]; exact Prod.ext hp hq)
  clear hp hq H hgt
  go_wp2_with fail
  (go_at_call 31; go_must (refine (allFinite_impl _ [(p1, q1), (p2, q2), (p11, q11)] _ (rd_c3 (by first | rfl | simp) (p1, q1) (p2, q2) (p11, q11)) (by simp)).mono ?_); rintro e w' ⟨rfl, hb1⟩)
  rw [show allFinC [(p1, q1), (p2, q2), (p11, q11)] = true by simp only [allFinC, List.all_cons, List.all_nil, Bool.and_true]; rw [A.out, C.out, Q.out, HL.out.a, HL.out.c, FIN.out.2.2.2.2.1]; rfl]
  replace BB := Lib.hid (belA (below_drewN BB.out _) (by simpa using lw2) hb1)
  clear hb1 A C G
  go_wp2_with fail
  (go_at_call 40; go_must (refine (minus_impl z (p11, q11) _).mono ?_); rintro e w' ⟨p12, q12, m12, rfl, hp, hq, rfl⟩)
  have H8 := Lib.hid (show nc (p12, q12) = subC (nc z) (lagQ n V V1 V2 ph) by rw [← Q.out]; exact Prod.ext hp hq)
  clear hp hq
  go_wp2_with fail
  (go_at_call 39; go_must (refine (finite_impl (p12, q12) _).mono ?_); rintro e w' ⟨r1, r2, rfl, hr1, hr2, hb1⟩)
  rw [H8.out, show finiteX (subC (nc z) (lagQ n V V1 V2 ph)) = (subC (nc z) (lagQ n V V1 V2 ph), true) by unfold finiteX; rw [if_pos FIN.out.2.2.2.2.2]] at hr1 hr2 ⊢
  replace BB := Lib.hid (belT (below_drewN BB.out _) BB.out.size hb1)
  have Hr := Lib.hid (show nc (r1, r2) = subC (nc z) (lagQ n V V1 V2 ph) from Prod.ext hr1 hr2)
  clear hr1 hr2 hb1
  dsimp only
  go_wp2_with fail
  go_ret2
  exact ⟨_, _, ph, rfl, P.out, Hr.out, BB.out⟩
end Go.Proofs.YtdnoilcfgicnnaaGreat
