/- FnSquares: the calls' contracts for a drawn polynomial. Conditions: up to four drawn roots. -/
import Derived.Test.YtfnhddaofllniaaGreatV26
import Derived.Test.YtfnhddaofllniaaGreatV30
import Derived.Test.YtfnhddaofllniaaGreatV31
import Derived.Test.YtfnhddaofllniaaGreatV32
import Derived.Test.YtfnhddaofllniaaGreatV34
import Derived.Test.YtfnhddaofllniaaGreatV29
namespace Go.Proofs.YtfnhddaofllniaaGreat
open Go Go.RowKit
set_option linter.unusedSimpArgs false
set_option linter.unusedVariables false

/-- A quarter of a small number, as it is drawn. -/
def qt (z : Int) : Nat := fop .quo .f32 (nrm .f32 (floatOfInt .f32 z)) (nrm .f32 1082130432)
theorem qt_ok : ∀ k : Nat, k < 9 → fN .f32 (qt ((k : Int) - 4)) = true ∧ vN .f32 (qt ((k : Int) - 4)) = ((2 * ((k : Int) - 4) : Int) : Rat) * p2 (-3) := by decide +kernel
theorem at_gr2 {z : C2} {x y : Int} (hx : 0 ≤ x ∧ x < 9) (hy : 0 ≤ y ∧ y < 9) (h : nc z = (qt (x - 4), qt (y - 4))) : Gr (nc z) (2 * (x - 4)) (2 * (y - 4)) 3 := by
  obtain ⟨k, rfl⟩ := Int.eq_ofNat_of_zero_le hx.1
  obtain ⟨l, rfl⟩ := Int.eq_ofNat_of_zero_le hy.1
  obtain ⟨a, b⟩ := qt_ok k (by omega)
  obtain ⟨c, d⟩ := qt_ok l (by omega)
  rw [h]
  exact ⟨⟨a, c⟩, q2e b d⟩
/-- The drawn polynomial in the world: roots, terms, eighths. -/
structure DP (rs ls : List C2) (X : Nat → Int × Int) : Prop where
  h : DX ls X
  h1 : 1 ≤ ls.length
  h4 : ls.length ≤ 4
  e : rs.map nc = rootsL (ls.map nc) ls.length
set_option maxRecDepth 100000 in
theorem mulC_spec (x y : C2) (Hf : RowKit.Hid (fit2 (timesF (nc x) (nc y)))) (w : World) : Calls Tryz.prog 12 #[.complex .f32 x.1 x.2, .complex .f32 y.1 y.2] w (RetX (mulC (nc x) (nc y)) w) := by
  go_enter Tryz.func12, Tryz.ntmps12
  go_wp2_with fail
  refine (mul_spec x y Hf _).mono ?_
  rintro e w' ⟨a, b, m, rfl, ha, hb, rfl⟩
  go_wp2_with fail
  go_ret
  exact ⟨_, _, _, rfl, ha, hb, by first | rfl | (simp; rfl)⟩
theorem mxR_fin {M : Nat → Nat × Bool} {ls : List C2} {V : Nat → C2} {s : Nat → Nat} {P : Nat → Prop} (H : ∀ i, i < ls.length → P i ∧ missG (longF (V i)) (s i) = M i) : (mxR M ls.length).2 = true → fN .f32 (mxR M ls.length).1 = true := by
  intro h
  unfold mxR at h ⊢
  by_cases hb : allB (fun i => (M i).2) ls.length = true
  · rw [if_pos hb]; exact mxF_fin H (Nat.le_refl _) hb
  · rw [if_neg hb] at h; cases h
section
variable {rs ls : List C2} {X : Nat → Int × Int}
theorem DP.len (H : DP rs ls X) : rs.length = ls.length + 1 := by have := congrArg List.length H.e; rwa [List.length_map, rootsL_length] at this
theorem DP.rooted (H : DP rs ls X) : rootedF (rs.map nc) = true := by rw [H.e]; exact (H.h.poly H.h1 H.h4).2.2
theorem DP.valid (H : DP rs ls X) : validF (rs.map nc) = true := by
  have := H.rooted
  unfold rootedF at this
  rw [Bool.and_eq_true] at this
  exact this.1
theorem DP.fin (H : DP rs ls X) : allFinC ls = true := (allFinC_true_iff ls).2 fun i hi => by
  have := finG (H.h.g i hi)
  rwa [getD_nc ls i, show ls.getD i (0, 0) = ls[i] by simp [List.getD, hi]] at this
/-- Squared roots of the program and of the reference. -/
theorem DP.squared (H : DP rs ls X) (v : Value) (w : World) (hv : RdV w v (cx rs)) : Calls Tryz.prog 8 #[.agg #[v]] w (RetP (squareF (rs.map nc), true) w.heap.size w) := by
  obtain ⟨s1, s2, s3, _⟩ := H.h.square H.h1 H.h4
  rw [← H.e] at s1 s2 s3
  exact squared_impl v rs ls.length w hv H.len H.h1 (by have := H.h4; omega) H.rooted (Lib.hid s1) _ (Lib.hid s3) s2
/-- Radii of both. -/
theorem DP.radii (H : DP rs ls X) (v : Value) (w : World) (hv : RdV w v (cx rs)) : Calls Tryz.prog 14 #[.agg #[v], .int .i64 3] w (RetNL (radF (rs.map nc) ls.length) w) ∧
    Calls Tryz.prog 15 #[.agg #[v], .int .i64 3] w (RetNL (radF (rs.map nc) ls.length) w) := by
  have R := H.h.radOk H.h1 H.h4
  rw [← H.e] at R
  exact ⟨radii_impl v rs ls.length 3 (Lib.hid rfl) w hv H.len H.h1 H.h4 (Lib.hid R), radii_spec v rs ls.length 3 (Lib.hid rfl) w hv H.len H.h1 H.h4 (Lib.hid R)⟩
/-- The radii's words are finite. -/
theorem DP.radN (H : DP rs ls X) {us : List Nat} (hu : us.map (nrm .f32) = (radF (rs.map nc) ls.length).1) (i : Nat) (hi : i < us.length) : fN .f32 (us.getD i 0) = true := by
  have R := H.h.radOk H.h1 H.h4
  rw [← H.e] at R
  have e := getD_nrm us i
  rw [hu] at e
  have l := congrArg List.length hu
  rw [List.length_map] at l
  by_cases hp : posF (rs.map nc) ls.length = true
  · have f : radF (rs.map nc) ls.length = ((List.range ls.length).map (outF (rs.map nc) ls.length), true) := by unfold radF; rw [if_pos hp]
    rw [f] at e l
    simp at l
    have fi := (R.out i (by omega) (posF_get hp (by omega)) (posF_get hp (by omega))).2
    rw [finF_iff] at fi
    have hi2 : i < ls.length := by omega
    simp [List.getD, hi2] at e
    rw [e] at fi
    have := nrm_fin rfl fi
    simp only [List.getD]
    rw [this]; exact fi
  · have f : radF (rs.map nc) ls.length = ([], false) := by unfold radF; rw [if_neg hp]
    rw [f] at l
    have l0 : us.length = 0 := l
    omega
/-- The roots that are followed. -/
theorem DP.follow (H : DP rs ls X) {bs : List C2} (hbs : bs.map nc = qP (rs.map nc)) : ∃ R : List C2, R.length = ls.length ∧ (∀ i, i < ls.length → fC (R.getD i (0, 0)) ∧ N (cv (R.getD i (0, 0))) ≤ 25 / 8) ∧ ∀ (va vb vl : Value) (w : World), RdV w va (cx rs) → RdV w vb (cx bs) → RdV w vl (cx ls) → va ≠ vb →
    Calls Tryz.prog 17 #[.agg #[va], .agg #[vb], vl, .int .i64 4, .int .i64 3] w (RetLB R w) ∧ Calls Tryz.prog 18 #[.agg #[va], .agg #[vb], vl, .int .i64 4, .int .i64 3] w (RetLB R w) := by
  have h1 := H.h1
  have h4 := H.h4
  have hX : ∀ j, j < ls.length → nz (X j) ≤ nb j := fun j hj => nb_ok H.h h4 hj
  have S2 := H.h.second h1 h4
  have W := fun k (hk : k < 5) => H.h.weigh h1 h4 (k := k) hk
  have lb : bs.length = ls.length + 1 := by have := congrArg List.length hbs; rw [List.length_map, qP_len, List.length_map, H.len] at this; exact this
  obtain ⟨r1, r2, _⟩ := S2.poly h1 h4 hX
  have hP := H.e
  rw [hP] at hbs
  refine ⟨(List.range ls.length).map (fun i => folR (fun k => weighF (rootsL (ls.map nc) ls.length) (qP (rootsL (ls.map nc) ls.length)) (wx k, 0) (wt k, 0)) ((ls.map nc).getD i (0, 0)) 4), by simp, fun i hi => ?_, fun va vb vl w ha hb hl hne => ?_⟩
  · have fs := fol_seq H.h h1 h4 (H := fun k => weighF (rootsL (ls.map nc) ls.length) (qP (rootsL (ls.map nc) ls.length)) (wx k, 0) (wt k, 0)) (fun k a b => (W k (by omega)).2) hi 4 (Nat.le_refl _)
    simp only [List.getD, List.getElem?_map, List.getElem?_range hi, Option.map_some, Option.getD_some] at fs ⊢
    exact ⟨fs.1, fs.2.1⟩
  · have HW := Lib.hid (show ∀ k, 1 ≤ k → k ≤ 4 → safeWeigh (rs.map nc) (bs.map nc) (wx k, 0) (wt k, 0) ∧ polyF (weighF (rs.map nc) (bs.map nc) (wx k, 0) (wt k, 0)) = ((fun k => weighF (rootsL (ls.map nc) ls.length) (qP (rootsL (ls.map nc) ls.length)) (wx k, 0) (wt k, 0)) k, true) ∧
        rootedF ((fun k => weighF (rootsL (ls.map nc) ls.length) (qP (rootsL (ls.map nc) ls.length)) (wx k, 0) (wt k, 0)) k) = true ∧ ((fun k => weighF (rootsL (ls.map nc) ls.length) (qP (rootsL (ls.map nc) ls.length)) (wx k, 0) (wt k, 0)) k).length = ls.length + 1 from fun k a b => by
      obtain ⟨w1, w2⟩ := W k (by omega)
      rw [hP, hbs]
      exact ⟨w1, w2.full h1, (w2.poly h1 h4 hX).1, w2.l⟩)
    have HP := Lib.hid (show ∀ i, i < ls.length → ∀ k, k < 4 → finC (folR (fun k => weighF (rootsL (ls.map nc) ls.length) (qP (rootsL (ls.map nc) ls.length)) (wx k, 0) (wt k, 0)) ((ls.map nc).getD i (0, 0)) k) = true ∧ safePolish ((fun k => weighF (rootsL (ls.map nc) ls.length) (qP (rootsL (ls.map nc) ls.length)) (wx k, 0) (wt k, 0)) (k + 1)) 3 (folR (fun k => weighF (rootsL (ls.map nc) ls.length) (qP (rootsL (ls.map nc) ls.length)) (wx k, 0) (wt k, 0)) ((ls.map nc).getD i (0, 0)) k) ∧
        polishF ((fun k => weighF (rootsL (ls.map nc) ls.length) (qP (rootsL (ls.map nc) ls.length)) (wx k, 0) (wt k, 0)) (k + 1)) 3 (folR (fun k => weighF (rootsL (ls.map nc) ls.length) (qP (rootsL (ls.map nc) ls.length)) (wx k, 0) (wt k, 0)) ((ls.map nc).getD i (0, 0)) k) = (folR (fun k => weighF (rootsL (ls.map nc) ls.length) (qP (rootsL (ls.map nc) ls.length)) (wx k, 0) (wt k, 0)) ((ls.map nc).getD i (0, 0)) (k + 1), true) from fun i hi k hk => by
      have fs := fol_seq H.h h1 h4 (H := fun k => weighF (rootsL (ls.map nc) ls.length) (qP (rootsL (ls.map nc) ls.length)) (wx k, 0) (wt k, 0)) (fun k a b => (W k (by omega)).2) hi k (by omega)
      exact ⟨(fC_iff _).1 fs.1, fs.2.2 hk⟩)
    exact ⟨follow_spec va vb vl rs bs ls ls.length _ 4 (Lib.hid rfl) w ha hb hl H.len lb rfl h1 (by omega) hne H.rooted (by rw [hbs]; exact r1) H.valid (by rw [hbs]; exact r2) H.fin HW HP _ (Lib.hid rfl),
      follow_impl va vb vl rs bs ls ls.length _ 4 (Lib.hid rfl) w ha hb hl H.len lb rfl h1 (by omega) hne H.rooted (by rw [hbs]; exact r1) H.valid (by rw [hbs]; exact r2) H.fin HW HP _ (Lib.hid rfl)⟩
/-- The misses of the moved roots. -/
theorem DP.moved (H : DP rs ls X) {bs us : List C2} (hbs : bs.map nc = qP (rs.map nc)) {R : List C2} (hl : R.length = ls.length) (hR : ∀ i, i < ls.length → fC (R.getD i (0, 0)) ∧ N (cv (R.getD i (0, 0))) ≤ 25 / 8) (hu : us.map nc = R) :
    ∃ F : Nat × Bool, (F.2 = true → fN .f32 F.1 = true) ∧ ∀ (v u : Value) (w : World), RdV w v (cx bs) → RdV w u (cx us) →
    Calls Tryz.prog 19 #[.agg #[v], u] w (RetFB F w) ∧ Calls Tryz.prog 20 #[.agg #[v], u] w (RetFB F w) := by
  have h1 := H.h1
  have h4 := H.h4
  have hX : ∀ j, j < ls.length → nz (X j) ≤ nb j := fun j hj => nb_ok H.h h4 hj
  obtain ⟨r1, r2, _⟩ := (H.h.second h1 h4).poly h1 h4 hX
  have lb : bs.length = ls.length + 1 := by have := congrArg List.length hbs; rw [List.length_map, qP_len, List.length_map, H.len] at this; exact this
  have lu : us.length = ls.length := by have := congrArg List.length hu; rw [List.length_map] at this; omega
  rw [H.e] at hbs
  have hz : ∀ i, i < us.length → fC (nc (us.getD i (0, 0))) ∧ N (cv (nc (us.getD i (0, 0)))) ≤ 25 / 8 := fun i hi => by
    rw [← getD_nc, hu]; exact hR i (by omega)
  have hf : allFinC us = true := (allFinC_true_iff us).2 fun i hi => by
    have := (fC_iff _).1 (hz i hi).1
    rwa [show us.getD i (0, 0) = us[i] by simp [List.getD, hi]] at this
  have HM : ∀ i, i < us.length → MsOk (bs.map nc) (nc (us.getD i (0, 0))) (nestedF (bs.map nc) (nc (us.getD i (0, 0)))) ∧ missG (longF (nestedF (bs.map nc) (nc (us.getD i (0, 0))))) (missS (bs.map nc) (nc (us.getD i (0, 0))) bs.length) = missG (longF (nestedF (bs.map nc) (nc (us.getD i (0, 0))))) (missS (bs.map nc) (nc (us.getD i (0, 0))) bs.length) := fun i hi => by
    rw [hbs]
    exact ⟨H.h.moved h1 h4 (hz i hi).1 (hz i hi).2, rfl⟩
  refine ⟨mxR (fun i => missG (longF (nestedF (bs.map nc) (nc (us.getD i (0, 0))))) (missS (bs.map nc) (nc (us.getD i (0, 0))) bs.length)) us.length, mxR_fin HM, fun v u w hv hu2 => ?_⟩
  exact ⟨missR_impl v u bs us (fun i => nestedF (bs.map nc) (nc (us.getD i (0, 0)))) _ w hv hu2 (by omega) (by omega) (by omega) (by omega) (by rw [hbs]; exact r1) hf (Lib.hid HM), missR_spec v u bs us (fun i => nestedF (bs.map nc) (nc (us.getD i (0, 0)))) _ w hv hu2 (by omega) (by omega) (by omega) (by omega) (by rw [hbs]; exact r1) hf (Lib.hid HM)⟩
end
end Go.Proofs.YtfnhddaofllniaaGreat

/- Squared roots, of the reference: the outer function. Conditions: a polynomial with roots; what is narrowed fits float32. -/
namespace Go.Proofs.YtfnhddaofllniaaGreat
open Go Go.RowKit
set_option linter.unusedSimpArgs false
set_option linter.unusedVariables false

set_option maxRecDepth 100000 in
set_option maxHeartbeats 4000000 in
theorem squared_spec (v : Value) (rs : List C2) (n : Nat) (w : World) (hv : RdV w v (cx rs)) (hn : rs.length = n + 1) (h1 : 1 ≤ n) (h2 : n ≤ 8) (hr : rootedF (rs.map nc) = true) (Hs : RowKit.Hid (safeSquare (rs.map nc)))
    (Q : List C2) (HQ : RowKit.Hid (polyF (squareF (rs.map nc)) = (Q, true))) (hq : Q.length = n + 1) :
    Calls Tryz.prog 9 #[.agg #[v]] w (RetP (Q, true) w.heap.size w) := by
  obtain ⟨ao, acap, rfl, _⟩ := hv.shape
  rw [cx_length, hn] at hv ⊢
  have HR := Lib.hid hr
  have HN := Lib.hid hn
  go_enter Tryz.func9, Tryz.ntmps9
  go_wp2_with fail
  have b2 : Below w.heap.size w ((w.alloc (.cells #[(.slice ao (n + 1) acap)] 28)).alloc (.cells #[.slice none 0 0] 28)) := by (repeat' (first | (with_reducible exact Below.refl _ _) | (with_reducible assumption) | (with_reducible refine Below.alloc ?_ ?_ _) | (with_reducible refine Below.setCell ?_ ?_ _) | (with_reducible refine Below.drew ?_) | (with_reducible refine Below.via (by assumption) ?_ ?_) | go_size))
  have z2 : ((w.alloc (.cells #[(.slice ao (n + 1) acap)] 28)).alloc (.cells #[.slice none 0 0] 28)).heap.size = w.heap.size + 2 := by simp
  have ca : ((w.alloc (.cells #[(.slice ao (n + 1) acap)] 28)).alloc (.cells #[.slice none 0 0] 28)).cell? ⟨w.heap.size, 0, none⟩ = some (.slice ao (n + 1) acap) := by go_simp
  have cc : ((w.alloc (.cells #[(.slice ao (n + 1) acap)] 28)).alloc (.cells #[.slice none 0 0] 28)).cell? ⟨w.heap.size + 1, 0, none⟩ = some (.slice none 0 0) := by go_simp; try rfl
  have fc : ((w.alloc (.cells #[(.slice ao (n + 1) acap)] 28)).alloc (.cells #[.slice none 0 0] 28)).frozen? ⟨w.heap.size + 1, 0, none⟩ = false := by go_simp; try rfl
  generalize ((w.alloc (.cells #[(.slice ao (n + 1) acap)] 28)).alloc (.cells #[.slice none 0 0] 28)) = W1 at *
  have HV1 := Lib.hid (hv.below b2)
  have B1 := Lib.hid b2
  clear hv hr hn b2
  (go_at_call 35; ((with_reducible refine (rooted_spec _ _ rs _ ca HV1.out (by have := HN.out; omega) (by have := HN.out; omega)).mono ?_); rw [HR.out]; rintro e W2' ⟨m2, rfl, rfl⟩))
  have hb2 : Below W1.heap.size W1 (W1.drewN m2) := below_drewN (Below.refl _ _) _
  generalize W1.drewN m2 = W2 at *
  have s2 := hb2.size
  have ca2 := (hb2.cell (p := ⟨w.heap.size, 0, none⟩) (by simp only; omega)).trans ca
  have CC2 := Lib.hid ((hb2.cell (p := ⟨w.heap.size + 1, 0, none⟩) (by simp only; omega)).trans cc)
  have FC2 := Lib.hid (show W2.frozen? ⟨w.heap.size + 1, 0, none⟩ = false by rw [(bcell hb2).2 _ _ (by omega)]; exact fc)
  have HV2 := Lib.hid (HV1.out.below hb2)
  have B2 := Lib.hid (B1.out.trans (hb2.mono (by omega)))
  clear hb2 ca cc fc HV1 B1
  go_wp2_with fail
  (go_at_call 36; ((with_reducible refine (sq_spec _ _ rs n _ ca2 HV2.out HN.out h1 h2 Hs Q HQ hq).mono ?_); rintro e w3 ⟨v3, us, rfl, hus, ho3, hb3⟩))
  have s3 := hb3.size
  have CC3 := Lib.hid ((hb3.cell (p := ⟨w.heap.size + 1, 0, none⟩) (by simp only; omega)).trans CC2.out)
  have FC3 := Lib.hid (show w3.frozen? ⟨w.heap.size + 1, 0, none⟩ = false by rw [(bcell hb3).2 _ _ (by omega)]; exact FC2.out)
  have B3 := Lib.hid (B2.out.trans (hb3.mono (by omega)))
  obtain ⟨uo, ucap, rfl, _⟩ := ho3.rd.shape
  rw [cx_length] at ho3 ⊢
  have HO3 := Lib.hid ho3
  clear hb3 ho3 ca2 CC2 FC2 HV2 B2
  go_upto_region 4 with fail
  have b4 : Below w3.heap.size w3 (w3.alloc (.cells #[.slice uo us.length ucap] 28)) := (Below.refl _ _).alloc (Nat.le_refl _) _
  have c4 : (w3.alloc (.cells #[.slice uo us.length ucap] 28)).cell? ⟨w3.heap.size, 0, none⟩ = some (.slice uo us.length ucap) := World.cell?_alloc_new w3 #[.slice uo us.length ucap] 28 0
  have z4 : (w3.alloc (.cells #[.slice uo us.length ucap] 28)).heap.size = w3.heap.size + 1 := by simp
  generalize (w3.alloc (.cells #[.slice uo us.length ucap] 28)) = w4 at *
  have cc4 := (b4.cell (p := ⟨w.heap.size + 1, 0, none⟩) (by simp only; omega)).trans CC3.out
  have fc4 : w4.frozen? ⟨w.heap.size + 1, 0, none⟩ = false := by rw [(bcell b4).2 _ _ (by omega)]; exact FC3.out
  have HO4 := Lib.hid (HO3.out.below b4)
  have B4 := Lib.hid (B3.out.trans (b4.mono (by omega)))
  have zl : w.heap.size + 1 < w4.heap.size := by omega
  clear b4 HO3 B3 CC3 FC3
  go_wp2_with fail
  have OF := (own_set (j := 0) HO4.out (show w.heap.size + 1 < W2.heap.size by omega) (.slice uo us.length ucap)).mono (show w.heap.size ≤ W2.heap.size by omega)
  have RF := Lib.hid OF
  have BF := Lib.hid (B4.out.setCell (p := ⟨w.heap.size + 1, 0, none⟩) (by simp only; omega) (.slice uo us.length ucap))
  have cf := setCell_self cc4 (.slice uo us.length ucap)
  clear OF
  generalize w4.setCell ⟨w.heap.size + 1, 0, none⟩ (.slice uo us.length ucap) = WF at *
  refine bodyPost_ret (by simp [results, Tryz.results9, go_sem, cf]; try rfl) rfl ?_
  exact ⟨_, us, rfl, hus, RF.out, BF.out⟩
section
variable {rs ls : List C2} {X : Nat → Int × Int}
theorem DP.squaredS (H : DP rs ls X) (v : Value) (w : World) (hv : RdV w v (cx rs)) : Calls Tryz.prog 9 #[.agg #[v]] w (RetP (squareF (rs.map nc), true) w.heap.size w) := by
  obtain ⟨s1, s2, s3, _⟩ := H.h.square H.h1 H.h4
  rw [← H.e] at s1 s2 s3
  exact squared_spec v rs ls.length w hv H.len H.h1 (by have := H.h4; omega) H.rooted (Lib.hid s1) _ (Lib.hid s3) s2
end
end Go.Proofs.YtfnhddaofllniaaGreat
