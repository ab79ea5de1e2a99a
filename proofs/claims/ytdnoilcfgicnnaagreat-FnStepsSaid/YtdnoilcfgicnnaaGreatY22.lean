/- The values of a polynomial and of its slopes; Halley's step, of the program. Conditions: all these values are there; what is narrowed fits float32. -/
import Derived.Test.YtdnoilcfgicnnaaGreatY6
import Derived.Test.YtdnoilcfgicnnaaGreatY16
import Derived.Test.YtdnoilcfgicnnaaGreatY21
import Derived.Test.YtdnoilcfgicnnaaGreatY17
namespace Go.Proofs.YtdnoilcfgicnnaaGreat
open Go Go.RowKit
set_option linter.unusedSimpArgs false
set_option linter.unusedVariables false

/-- The three values are there. -/
structure ValOk (F S T : List C2) (z V V1 V2 : C2) : Prop where
  r : rootedF F = true
  vS : validF S = true
  pS : slopePolyF F = (S, true)
  pT : slopePolyF S = (T, true)
  lS : 1 ≤ S.length ∧ S.length ≤ 5
  lT : 1 ≤ T.length ∧ T.length ≤ 5
  sF : safeN F z
  sS : safeN S z
  sT : safeN T z
  fz : finC z = true
  aF : polyAtF F z = (V, true)
  aS : polyAtF S z = (V1, true)
  aT : polyAtF T z = (V2, true)
theorem StOk.valOk {F S S2 : List C2} {z rt : C2} {n : Nat} {K P m g h : Q2} (H : StOk F S S2 z rt n K P m g h) : ValOk F S S2 z (nestedF F z) (nestedF S z) (nestedF S2 z) :=
  ⟨H.r, H.vS, H.pS, H.pT, H.lS, H.lT, H.sF, H.sS, H.sT, (fC_iff _).1 H.fz, H.at.1, H.at.2.1, H.at.2.2⟩
def RetVals (V V1 V2 : C2) (w : World) (e : Ending) (w' : World) : Prop :=
  ∃ a b c d g h, e = .returned (.tuple #[.complex .f32 a b, .complex .f32 c d, .complex .f32 g h, .bool true]) ∧ nc (a, b) = V ∧ nc (c, d) = V1 ∧ nc (g, h) = V2 ∧ Below w.heap.size w w'
theorem belA {w w1 w2 : World} {B : Nat} {x} (h : Below B w w1) (hB : B ≤ w1.heap.size) (h2 : Below (w1.alloc x).heap.size (w1.alloc x) w2) : Below B w w2 := (h.alloc hB _).trans (h2.mono (by simp; omega))
theorem belT {w w1 w2 : World} {B : Nat} (h : Below B w w1) (hB : B ≤ w1.heap.size) (h2 : Below w1.heap.size w1 w2) : Below B w w2 := h.trans (h2.mono hB)
theorem beCell {B : Nat} {w w' : World} (h : Below B w w') {a : Addr} {v : Value} (hc : w.cell? a = some v) (hB : w.heap.size ≤ B) : w'.cell? a = some v := by
  rw [h.cell (Nat.lt_of_lt_of_le (World.block_lt_of_cell? w a hc) hB)]
  exact hc
theorem celA {w1 w2 : World} {x} {a : Addr} {u : Value} (h : w1.cell? a = some u) (h2 : Below (w1.alloc x).heap.size (w1.alloc x) w2) : w2.cell? a = some u :=
  beCell h2 (beCell ((Below.refl w1.heap.size w1).alloc (Nat.le_refl _) x) h (Nat.le_refl _)) (Nat.le_refl _)
theorem celT {w1 w2 : World} {a : Addr} {u : Value} (h : w1.cell? a = some u) (h2 : Below w1.heap.size w1 w2) : w2.cell? a = some u := beCell h2 h (Nat.le_refl _)
theorem celN {w1 w2 : World} {u : Value} {t : TypeId} (h2 : Below (w1.alloc (.cells #[u] t)).heap.size (w1.alloc (.cells #[u] t)) w2) : w2.cell? ⟨w1.heap.size, 0, none⟩ = some u :=
  beCell h2 (World.cell?_alloc_new w1 #[u] t 0) (Nat.le_refl _)
theorem lenq {qs F : List C2} (h : qs.map nc = F) (h1 : 1 ≤ F.length ∧ F.length ≤ 5) : 1 ≤ qs.length ∧ qs.length ≤ 17 := by
  have := congrArg List.length h
  simp only [List.length_map] at this
  omega
set_option maxRecDepth 100000 in
set_option maxHeartbeats 1600000 in
theorem valuesAt_impl (v : Value) (rs S T : List C2) (z V V1 V2 : C2) (w : World) (hv : RdV w v (cx rs)) (h1 : 1 ≤ rs.length) (h2 : rs.length ≤ 17) (HV : RowKit.Hid (ValOk (rs.map nc) S T (nc z) V V1 V2)) :
    Calls Tryz.prog 42 #[.agg #[v], .complex .f32 z.1 z.2] w (RetVals V V1 V2 w) := by
  have Ha := Lib.hid (show allFinC [z] = true by simp [allFinC, HV.out.fz])
  obtain ⟨ao, cap, rfl, _⟩ := hv.shape
  rw [cx_length] at hv ⊢
  have Hv := Lib.hid hv
  clear hv
  have Pimpl := Lib.hid (fun v w hv => polyAt_impl v rs z w hv h1 h2 (Lib.hid fun _ _ => HV.out.sF))
  have Simpl := Lib.hid (fun v w hv => slope_impl v rs w hv h1 h2)
  have Rimpl := Lib.hid (fun v w hv => rooted_impl v rs w hv h1 h2)
  rw [HV.out.aF] at Pimpl
  rw [HV.out.pS] at Simpl
  rw [HV.out.r] at Rimpl
  go_enter Tryz.func42, Tryz.ntmps42
  go_wp2_with fail
  (go_at_call 27; go_must (refine (Rimpl.out _ _ (Hv.out.alloc _)).mono ?_); rintro e w' ⟨rfl, hb1⟩)
  have x2 := celN hb1
  have BB := Lib.hid (belA (Below.refl w.heap.size w) (Nat.le_refl _) hb1)
  have W1 := Lib.hid ((Hv.out.alloc _).below hb1)
  have l2 := World.block_lt_of_cell? _ _ x2
  clear hb1
  dsimp only at l2
  go_wp2_with fail
  (go_at_call 31; go_must (refine (allFinite_impl _ [z] _ (rd_c1 rfl z) (by simp)).mono ?_); rintro e w' ⟨rfl, hb1⟩)
  rw [Ha.out]
  replace BB := Lib.hid (belA BB.out BB.out.size hb1)
  replace W1 := Lib.hid ((W1.out.alloc _).below hb1)
  replace x2 := celA x2 hb1
  replace l2 := World.block_lt_of_cell? _ _ x2
  dsimp only at l2
  clear hb1
  go_wp2_with fail
  (go_at_call 37; go_must (refine (Simpl.out _ _ W1.out).mono ?_); rintro e w' ⟨v2, qs, rfl, hqs, ho2, hb1⟩)
  replace BB := Lib.hid (belT BB.out BB.out.size hb1)
  replace W1 := Lib.hid (W1.out.below hb1)
  replace x2 := celT x2 hb1
  replace l2 := World.block_lt_of_cell? _ _ x2
  dsimp only at l2 hqs ⊢
  have Hqs := Lib.hid hqs
  have W2 := Lib.hid ho2.rd
  clear hb1 hqs ho2
  obtain ⟨ao2, cap2, rfl, _⟩ := W2.out.shape
  rw [cx_length] at W2 ⊢
  have hq := lenq Hqs.out HV.out.lS
  go_wp2_with fail
  (go_at_call 37; go_must (refine (slope_impl _ qs _ (W2.out.alloc _) hq.1 hq.2).mono ?_); rintro e w' ⟨v3, ts, rfl, hts, ho3, hb1⟩)
  rw [Hqs.out, HV.out.pT] at hts ⊢
  have x8 := celN hb1
  replace BB := Lib.hid (belA BB.out BB.out.size hb1)
  replace W1 := Lib.hid ((W1.out.alloc _).below hb1)
  replace W2 := Lib.hid ((W2.out.alloc _).below hb1)
  replace x2 := celA x2 hb1
  replace l2 := World.block_lt_of_cell? _ _ x2
  have l8 := World.block_lt_of_cell? _ _ x8
  dsimp only at l2 l8 hts ⊢
  have Hts := Lib.hid hts
  have W3 := Lib.hid ho3.rd
  clear hb1 hts ho3
  obtain ⟨ao3, cap3, rfl, _⟩ := W3.out.shape
  rw [cx_length] at W3 ⊢
  have ht := lenq Hts.out HV.out.lT
  go_wp2_with fail
  (go_at_call 36; go_must (refine (Pimpl.out _ _ (W1.out.alloc _)).mono ?_); rintro e w' ⟨a, b, rfl, ha, hb, hb1⟩)
  have Hab := Lib.hid (show nc (a, b) = V from Prod.ext ha hb)
  have x10 := celN hb1
  replace BB := Lib.hid (belA BB.out BB.out.size hb1)
  replace W2 := Lib.hid ((W2.out.alloc _).below hb1)
  replace W3 := Lib.hid ((W3.out.alloc _).below hb1)
  replace x8 := celA x8 hb1
  replace l8 := World.block_lt_of_cell? _ _ x8
  have l10 := World.block_lt_of_cell? _ _ x10
  dsimp only at l8 l10 ⊢
  clear hb1 ha hb x2 l2 W1
  go_wp2_with fail
  (go_at_call 36; go_must (refine (polyAt_impl _ qs z _ W2.out hq.1 hq.2 (Lib.hid fun _ _ => by rw [Hqs.out]; exact HV.out.sS)).mono ?_); rintro e w' ⟨c, d, rfl, hc, hd, hb1⟩)
  rw [Hqs.out, HV.out.aS] at hc hd ⊢
  have Hcd := Lib.hid (show nc (c, d) = V1 from Prod.ext hc hd)
  replace BB := Lib.hid (belT BB.out BB.out.size hb1)
  replace W3 := Lib.hid (W3.out.below hb1)
  replace x10 := celT x10 hb1
  replace l10 := World.block_lt_of_cell? _ _ x10
  dsimp only at l10 ⊢
  clear hb1 hc hd x8 l8 W2
  go_wp2_with fail
  (go_at_call 36; go_must (refine (polyAt_impl _ ts z _ W3.out ht.1 ht.2 (Lib.hid fun _ _ => by rw [Hts.out]; exact HV.out.sT)).mono ?_); rintro e w' ⟨g, h, rfl, hg, hh, hb1⟩)
  rw [Hts.out, HV.out.aT] at hg hh ⊢
  have Hgh := Lib.hid (show nc (g, h) = V2 from Prod.ext hg hh)
  replace BB := Lib.hid (belT BB.out BB.out.size hb1)
  clear hb1 hg hh
  dsimp only
  go_wp2_with fail
  (try simp only [Exit.inBlock, Exit.then]); refine bodyPost_ret (by simp [results, Tryz.results42, go_sem, *]; try rfl) rfl ?_
  exact ⟨_, _, _, _, _, _, rfl, Hab.out, Hcd.out, Hgh.out, BB.out⟩
set_option maxRecDepth 100000 in
set_option maxHeartbeats 800000 in
theorem isRootAt_impl (v : Value) (rs : List C2) (z V : C2) (w : World) (hv : RdV w v (cx rs)) (h1 : 1 ≤ rs.length) (h2 : rs.length ≤ 17) (hs : safeN (rs.map nc) (nc z)) (ha : polyAtF (rs.map nc) (nc z) = (V, true)) (hz : zeroC V = false) :
    Calls Tryz.prog 41 #[.agg #[v], .complex .f32 z.1 z.2] w (RB false w) := by
  obtain ⟨ao, cap, rfl, _⟩ := hv.shape
  rw [cx_length] at hv ⊢
  have Hv := Lib.hid hv
  clear hv
  have Pimpl := Lib.hid (fun v w hv => polyAt_impl v rs z w hv h1 h2 (Lib.hid fun _ _ => hs))
  rw [ha] at Pimpl
  clear ha hs
  go_enter Tryz.func41, Tryz.ntmps41
  go_wp2_with fail
  (go_at_call 36; go_must (refine (Pimpl.out _ _ (Hv.out.alloc _)).mono ?_); rintro e w' ⟨a, b, rfl, ha, hb, hb1⟩)
  have hz2 : zeroC (nc (a, b)) = false := by rw [show nc (a, b) = V from Prod.ext ha hb]; exact hz
  have BB := Lib.hid (belA (Below.refl w.heap.size w) (Nat.le_refl _) hb1)
  clear hb1 ha hb
  dsimp only
  go_wp2_with fail
  go_ret
  exact ⟨rfl, BB.out⟩
set_option maxRecDepth 100000 in
set_option maxHeartbeats 1600000 in
theorem halley_impl (v : Value) (rs S T : List C2) (z V V1 V2 : C2) (w : World) (hv : RdV w v (cx rs)) (h1 : 1 ≤ rs.length) (h2 : rs.length ≤ 17) (HV : RowKit.Hid (ValOk (rs.map nc) S T (nc z) V V1 V2)) (hz : zeroC V = false)
    (HS : RowKit.Hid (halSafe V V1 V2)) (hq : finC (halQ V V1 V2) = true) (hf : finC (subC (nc z) (halQ V V1 V2)) = true) :
    Calls Tryz.prog 14 #[.agg #[v], .complex .f32 z.1 z.2] w (RetXB (subC (nc z) (halQ V V1 V2), true) w) := by
  have k2 : nrm .f32 1073741824 = kf 2 := by decide +kernel
  obtain ⟨ao, cap, rfl, _⟩ := hv.shape
  rw [cx_length] at hv ⊢
  have Hv := Lib.hid hv
  clear hv
  have Qimpl := Lib.hid (fun v w hv => valuesAt_impl v rs S T z V V1 V2 w hv h1 h2 HV)
  have Iimpl := Lib.hid (fun v w hv => isRootAt_impl v rs z V w hv h1 h2 HV.out.sF HV.out.aF hz)
  have Rimpl := Lib.hid (fun v w hv => rooted_impl v rs w hv h1 h2)
  rw [HV.out.r] at Rimpl
  have Hz := Lib.hid hz
  have Hq := Lib.hid hq
  have Hf := Lib.hid hf
  clear hz hq hf
  go_enter Tryz.func14, Tryz.ntmps14
  go_wp2_with fail
  (go_at_call 27; go_must (refine (Rimpl.out _ _ (Hv.out.alloc _)).mono ?_); rintro e w' ⟨rfl, hb1⟩)
  have x2 := celN hb1
  have BB := Lib.hid (belA (Below.refl w.heap.size w) (Nat.le_refl _) hb1)
  have W1 := Lib.hid ((Hv.out.alloc _).below hb1)
  have l2 := World.block_lt_of_cell? _ _ x2
  clear hb1
  dsimp only at l2
  go_wp2_with fail
  (go_at_call 41; go_must (refine (Iimpl.out _ _ W1.out).mono ?_); rintro e w' ⟨rfl, hb1⟩)
  replace BB := Lib.hid (belT BB.out BB.out.size hb1)
  replace W1 := Lib.hid (W1.out.below hb1)
  replace x2 := celT x2 hb1
  replace l2 := World.block_lt_of_cell? _ _ x2
  clear hb1
  dsimp only at l2
  go_wp2_with fail
  (go_at_call 42; go_must (refine (Qimpl.out _ _ W1.out).mono ?_); rintro e w' ⟨a, b, c, d, g, h, rfl, hab, hcd, hgh, hb1⟩)
  replace BB := Lib.hid (belT BB.out BB.out.size hb1)
  have Hab := Lib.hid hab
  have Hcd := Lib.hid hcd
  have Hgh := Lib.hid hgh
  have lw := BB.out.size
  clear hb1 x2 l2 W1 hab hcd hgh
  go_wp2_with fail
  (go_at_call 44; go_must (refine (mul_impl (a, b) (c, d) (Lib.hid (by rw [Hab.out, Hcd.out]; exact HS.out.1)) _).mono ?_); rintro e w' ⟨p1, q1, m1, rfl, hp1, hq1, rfl⟩)
  have H1 := Lib.hid (show nc (p1, q1) = mulC V V1 by rw [← Hab.out, ← Hcd.out]; exact Prod.ext hp1 hq1)
  clear hp1 hq1
  go_wp2_with fail
  (go_at_call 43; go_must (refine (scale_impl (p1, q1) 1073741824 _).mono ?_); rintro e w' ⟨p2, q2, m2, rfl, hp2, hq2, rfl⟩)
  have H2 := Lib.hid (show nc (p2, q2) = halA V V1 by unfold halA; rw [← H1.out, ← k2]; exact Prod.ext hp2 hq2)
  clear hp2 hq2
  go_wp2_with fail
  (go_at_call 44; go_must (refine (mul_impl (c, d) (c, d) (Lib.hid (by rw [Hcd.out]; exact HS.out.2.1)) _).mono ?_); rintro e w' ⟨p3, q3, m3, rfl, hp3, hq3, rfl⟩)
  have H3 := Lib.hid (show nc (p3, q3) = mulC V1 V1 by rw [← Hcd.out]; exact Prod.ext hp3 hq3)
  clear hp3 hq3
  go_wp2_with fail
  (go_at_call 43; go_must (refine (scale_impl (p3, q3) 1073741824 _).mono ?_); rintro e w' ⟨p4, q4, m4, rfl, hp4, hq4, rfl⟩)
  have H4 := Lib.hid (show nc (p4, q4) = scaleC (mulC V1 V1) (kf 2) by rw [← H3.out, ← k2]; exact Prod.ext hp4 hq4)
  clear hp4 hq4
  go_wp2_with fail
  (go_at_call 44; go_must (refine (mul_impl (a, b) (g, h) (Lib.hid (by rw [Hab.out, Hgh.out]; exact HS.out.2.2.1)) _).mono ?_); rintro e w' ⟨p5, q5, m5, rfl, hp5, hq5, rfl⟩)
  have H5 := Lib.hid (show nc (p5, q5) = mulC V V2 by rw [← Hab.out, ← Hgh.out]; exact Prod.ext hp5 hq5)
  clear hp5 hq5
  go_wp2_with fail
  (go_at_call 40; go_must (refine (minus_impl (p4, q4) (p5, q5) _).mono ?_); rintro e w' ⟨p6, q6, m6, rfl, hp6, hq6, rfl⟩)
  have H6 := Lib.hid (show nc (p6, q6) = halB V V1 V2 by unfold halB; rw [← H4.out, ← H5.out]; exact Prod.ext hp6 hq6)
  clear hp6 hq6
  go_wp2_with fail
  (go_at_call 38; go_must (refine (quo_impl (p2, q2) (p6, q6) (Lib.hid (by rw [H2.out, H6.out]; exact HS.out.2.2.2)) _).mono ?_); rintro e w' ⟨p7, q7, m7, rfl, hp7, hq7, rfl⟩)
  have H7 := Lib.hid (show nc (p7, q7) = halQ V V1 V2 by unfold halQ; rw [← H2.out, ← H6.out]; exact Prod.ext hp7 hq7)
  clear hp7 hq7
  go_wp2_with fail
  (go_at_call 31; go_must (refine (allFinite_impl _ [(p7, q7)] _ (rd_c1 (by first | rfl | simp) (p7, q7)) (by simp)).mono ?_); rintro e w' ⟨rfl, hb1⟩)
  rw [show allFinC [(p7, q7)] = true by simp only [allFinC, List.all_cons, List.all_nil, Bool.and_true]; rw [H7.out]; exact Hq.out]
  replace BB := Lib.hid (belA (below_drewN BB.out _) (by simpa using lw) hb1)
  clear hb1
  go_wp2_with fail
  (go_at_call 40; go_must (refine (minus_impl z (p7, q7) _).mono ?_); rintro e w' ⟨p8, q8, m8, rfl, hp8, hq8, rfl⟩)
  have H8 := Lib.hid (show nc (p8, q8) = subC (nc z) (halQ V V1 V2) by rw [← H7.out]; exact Prod.ext hp8 hq8)
  clear hp8 hq8
  go_wp2_with fail
  (go_at_call 39; go_must (refine (finite_impl (p8, q8) _).mono ?_); rintro e w' ⟨r1, r2, rfl, hr1, hr2, hb1⟩)
  rw [H8.out, show finiteX (subC (nc z) (halQ V V1 V2)) = (subC (nc z) (halQ V V1 V2), true) by unfold finiteX; rw [if_pos Hf.out]] at hr1 hr2 ⊢
  replace BB := Lib.hid (belT (below_drewN BB.out _) BB.out.size hb1)
  have Hr1 := Lib.hid hr1
  have Hr2 := Lib.hid hr2
  clear hr1 hr2 hb1
  dsimp only
  go_wp2_with fail
  go_ret2
  exact ⟨_, _, rfl, Hr1.out, Hr2.out, BB.out⟩
end Go.Proofs.YtdnoilcfgicnnaaGreat

/- What the walks of Laguerre's step need, from the values near a simple root; half the angle. Conditions: the values are near those of a simple root. -/
namespace Go.Proofs.YtdnoilcfgicnnaaGreat
open Go Go.RowKit
set_option linter.unusedSimpArgs false
set_option linter.unusedVariables false

theorem rlt {a b c : Rat} (h : a ≤ b) (k : b < c) : a < c := by grind
theorem c_half : fN .f32 (nrm .f32 1056964608) = true ∧ vN .f32 (nrm .f32 1056964608) = 1 / 2 := by decide +kernel
theorem half_in {r h y : Nat} (ha : AngOk r) (hh : nrm .f32 h = fop .mul .f32 (nrm .f32 1056964608) (nrm .f32 r)) (hy : nrm .f64 y = wd (nrm .f32 h)) : y < 18446744073709551616 ∧ In y (-(306 / 10000)) (306 / 10000) := by
  obtain ⟨f, le⟩ := ha
  have q0 : A (vN .f32 (nrm .f32 1056964608) * vN .f32 (nrm .f32 r)) ≤ 3045 / 100000 := by
    rw [c_half.2, A_mul, show A (1 / 2) = 1 / 2 by decide +kernel]; grind
  have R := near1_res (fop_mul_res c_half.1 f (rlt q0 (by decide +kernel)))
  rw [← hh] at R
  obtain ⟨f1, n1⟩ := R
  have q1 : u1 * A (vN .f32 (nrm .f32 1056964608) * vN .f32 (nrm .f32 r)) ≤ u1 * (3045 / 100000) := Rat.mul_le_mul_of_nonneg_left q0 (Rat.le_of_lt u1_pos)
  have q2 : A (vN .f32 (nrm .f32 h)) ≤ A (vN .f32 (nrm .f32 1056964608) * vN .f32 (nrm .f32 r)) + A (vN .f32 (nrm .f32 h) - vN .f32 (nrm .f32 1056964608) * vN .f32 (nrm .f32 r)) := by
    have := A_add (vN .f32 (nrm .f32 1056964608) * vN .f32 (nrm .f32 r)) (vN .f32 (nrm .f32 h) - vN .f32 (nrm .f32 1056964608) * vN .f32 (nrm .f32 r))
    rw [show vN .f32 (nrm .f32 1056964608) * vN .f32 (nrm .f32 r) + (vN .f32 (nrm .f32 h) - vN .f32 (nrm .f32 1056964608) * vN .f32 (nrm .f32 r)) = vN .f32 (nrm .f32 h) by grind] at this
    exact this
  have q3 : 3045 / 100000 + (u1 * (3045 / 100000) + p2 (-149)) ≤ 306 / 10000 := by
    have h1 : u1 ≤ 1 / 1000000 := by decide +kernel
    have h2 : p2 (-149) ≤ p2 (-30) := p2_mono (by decide)
    have h3 : p2 (-30) ≤ 1 / 1000000 := by decide +kernel
    grind
  have q4 : A (vN .f32 (nrm .f32 h)) ≤ 306 / 10000 := by
    clear hh hy f f1 le
    generalize p2 (-149) = b at *
    generalize A (vN .f32 (nrm .f32 h)) = x1 at *
    generalize A (vN .f32 (nrm .f32 h) - vN .f32 (nrm .f32 1056964608) * vN .f32 (nrm .f32 r)) = x2 at *
    generalize A (vN .f32 (nrm .f32 1056964608) * vN .f32 (nrm .f32 r)) = x3 at *
    generalize u1 = a at *
    generalize a * x3 = x4 at *
    generalize a * (3045 / 100000) = x5 at *
    grind
  obtain ⟨l1, f2, v2, _, _⟩ := wid_abs f1 (lt_of_p2 (a := 0) (Rat.le_trans q4 (by decide +kernel)) (by decide)) hy
  obtain ⟨p1, p2'⟩ := A_le.1 q4
  exact ⟨l1, f2, by rw [v2]; grind, by rw [v2]; exact p1⟩
/-- What the walks need. -/
structure LagOk (n : Nat) (z V V1 V2 : C2) : Prop where
  n1 : 1 ≤ n
  n4 : n ≤ 4
  f1 : quoFit V1 V
  f2 : quoFit V2 V
  f3 : fit2 (timesF (lagA V V1) (lagA V V1))
  a : finC (lagA V V1) = true
  c : finC (lagC V V2) = true
  x : finC (lagX n V V1 V2) = true
  ang : ∀ p, nc p = lagX n V V1 V2 → AngC p
  l1 : fit1 (sqF (powerF (lagX n V V1 V2)))
  l2 : fit1 (sqF (wd (longF (lagX n V V1 V2))))
  fin : ∀ ph, PhOk ph → fit1 (sqF (powerF (lagG n V V1 V2 ph))) ∧ fit1 (sqF (powerF (lagH n V V1 V2 ph))) ∧ fcmp .gtr .f32 (longF (lagH n V V1 V2 ph)) (longF (lagG n V V1 V2 ph)) = false ∧ quoFit (kf n, 0) (lagG n V V1 V2 ph) ∧
    finC (lagQ n V V1 V2 ph) = true ∧ finC (subC z (lagQ n V V1 V2 ph)) = true
theorem angC_of {n : Nat} {v s t a' : Q2} {vw sw tw : C2} (L : LagX n v s t a' vw sw tw) (h1 : 1 ≤ n) (h4 : n ≤ 4) (p : C2) (hp : nc p = lagX n vw sw tw) : AngC p := by
  by_cases hn : n = 1
  · exact .inr ⟨by rw [hp]; exact L.x, by rw [hp]; exact L.x0 hn⟩
  · refine .inl ?_
    have h2 : 2 ≤ n := by omega
    have X := L.x2 h2
    rw [← hp] at X
    have F : fC (nc p) := by rw [hp]; exact L.x
    have r2 : (2 : Rat) ≤ (n : Rat) := by exact_mod_cast h2
    have r4 : (n : Rat) ≤ 4 := by exact_mod_cast h4
    have m1 : (1 : Rat) ≤ ((n : Rat) - 1) * ((n : Rat) - 1) := by
      have := Rat.mul_nonneg (show 0 ≤ (n : Rat) - 2 by grind) (show 0 ≤ (n : Rat) by grind)
      grind
    have m2 : ((n : Rat) - 1) * ((n : Rat) - 1) ≤ 9 := by
      have := Rat.mul_nonneg (show 0 ≤ 4 - (n : Rat) by grind) (show 0 ≤ (n : Rat) + 2 by grind)
      grind
    generalize ((n : Rat) - 1) * ((n : Rat) - 1) = R at *
    have ere : (cv (nc p) - sc (4096 * R) one2).re = vN .f32 (nrm .f32 p.1) - 4096 * R := by simp [cv, sc, one2, nc]
    have eim : (cv (nc p) - sc (4096 * R) one2).im = vN .f32 (nrm .f32 p.2) := by simp [cv, sc, one2, nc]; grind
    unfold N at X
    rw [ere, eim] at X
    generalize hx : vN .f32 (nrm .f32 p.1) = x at *
    generalize hy : vN .f32 (nrm .f32 p.2) = y at *
    have a1 := le_A (x - 4096 * R)
    have a2 := le_A y
    have a3 := A_nonneg y
    have a4 := A_nonneg (x - 4096 * R)
    have big : (60000 : Rat) < p2 1023 := lt_of_p2 (a := 16) (by decide +kernel) (by decide)
    have xp : 0 < x := by grind
    exact ⟨F.2, F.1, by rw [hy]; grind, by rw [hx, A_of_nonneg (Rat.le_of_lt xp)]; grind, by rw [hx]; exact xp, by rw [hx, hy]; grind⟩
theorem LagX.ok {n : Nat} {v s t a' : Q2} {vw sw tw z rt : C2} (L : LagX n v s t a' vw sw tw) (h1 : 1 ≤ n) (h4 : n ≤ 4) (hz : fC z) (hn : N (cv z) ≤ 193 / 64) (hr : fC rt) (er : cv z = cv rt + dl) : LagOk n z vw sw tw := by
  have P0 : PhOk (kf 1, 0) := ⟨⟨kf1.1, by decide +kernel⟩, by decide +kernel, by decide +kernel, by decide +kernel⟩
  obtain ⟨r1, r2, _⟩ := rho_ok L P0 h1 h4
  refine ⟨h1, h4, L.f1, L.f2, L.f3, (fC_iff _).1 L.a.1, (fC_iff _).1 L.c, (fC_iff _).1 L.x, angC_of L h1 h4, r1, r2, fun ph P => ?_⟩
  obtain ⟨g1, g2, g3, g4, g5, g6, _⟩ := lag_fin L P h1 h4 hz hn hr er
  exact ⟨g1, g2, g3, g4, (fC_iff _).1 g5, (fC_iff _).1 g6⟩
end Go.Proofs.YtdnoilcfgicnnaaGreat
