/- The quotient and the rest of polynomials, of the program. Conditions: valid polynomials, a divisor of at least two terms and no more than the dividend has; what is narrowed fits float32; both results are valid. -/
import Derived.Test.YtdnoilcfgicnnaaGreatY7
import Derived.Deep.RegionHeld3
namespace Go.Proofs.YtdnoilcfgicnnaaGreat
set_option linter.unusedSimpArgs false
set_option linter.unusedVariables false
open Go Go.RowKit

/-- One round's inner steps. -/
def divIn (G : List C2) (q : C2) (k : Nat) (R : List C2) : Nat → List C2
  | 0 => R
  | i + 1 => (divIn G q k R i).set (k + i) (subC ((divIn G q k R i).getD (k + i) (0, 0)) (mulC q (G.getD i (0, 0))))
def divQ (G : List C2) (n k : Nat) (R : List C2) : C2 := quoC (R.getD (k + n) (0, 0)) (G.getD n (0, 0))
/-- The rest and the quotient behind rounds. -/
def divSt (G F : List C2) (n m : Nat) : Nat → List C2 × List C2
  | 0 => (F, List.replicate m (0, 0))
  | j + 1 => (divIn G (divQ G n (m - 1 - j) (divSt G F n m j).1) (m - 1 - j) (divSt G F n m j).1 (n + 1), (divSt G F n m j).2.set (m - 1 - j) (divQ G n (m - 1 - j) (divSt G F n m j).1))
def safeDiv (G F : List C2) (n m : Nat) : Prop := ∀ j, j < m → quoFit ((divSt G F n m j).1.getD (m - 1 - j + n) (0, 0)) (G.getD n (0, 0)) ∧ ∀ i, i < n + 1 → fit2 (timesF (divQ G n (m - 1 - j) (divSt G F n m j).1) (G.getD i (0, 0)))
theorem cx_set (rs : List C2) (k a b : Nat) : (cx rs).set k (.complex .f32 a b) = cx (rs.set k (a, b)) := by simp [cx, List.map_set, cxv]
theorem map_set_nc (rs : List C2) (k : Nat) (x : C2) : (rs.set k x).map nc = (rs.map nc).set k (nc x) := by simp [List.map_set]
theorem divIn_length (G : List C2) (q : C2) (k : Nat) (R : List C2) (i : Nat) : (divIn G q k R i).length = R.length := by
  induction i with
  | zero => rfl
  | succ i ih => rw [divIn, List.length_set, ih]
theorem cx_zeros (n : Nat) : List.replicate n (Value.complex .f32 0 0) = cx (List.replicate n (0, 0)) := by simp [cx, cxv]
theorem zeros_nc (n : Nat) : (List.replicate n ((0, 0) : C2)).map nc = List.replicate n (0, 0) := by simp [nc, nrm0]
/-- A call's result in a drawn region. -/
def GD (f1 f2 : FuncId) (A B : C2) (f : FuncId) (_ : Array Value) (u : Value) : Prop := ∃ a b, u = .complex .f32 a b ∧ ((f = f1 ∧ nc (a, b) = A) ∨ (f = f2 ∧ nc (a, b) = B))

theorem own_cell {w : World} {B g n cap : Nat} {rs : List C2} (h : OwV 36 w B (.slice (some ⟨g, 0, none⟩) n cap) (cx rs)) {i : Nat} (hi : i < rs.length) :
    w.cell? ⟨g, i, none⟩ = some (.complex .f32 (rs.getD i (0, 0)).1 (rs.getD i (0, 0)).2) ∧ w.frozen? ⟨g, i, none⟩ = false ∧ g < w.heap.size := by
  obtain ⟨g', cap', e, _, h2, _, _, h3, h4⟩ := h.open (by rw [← List.length_pos_iff, cx_length]; omega)
  injection e with e1 e2 e3
  injection e1 with e1
  injection e1 with e1
  subst e1
  refine ⟨?_, h4 i, h2⟩
  rw [h3 i (by rw [cx_length]; exact hi), cx_get hi]
  simp [List.getD, hi, cxv]
theorem cellZ {w : World} {g k : Nat} {u : Value} (h : k ≠ g) : (w.setCell ⟨g, 0, none⟩ u).cell? ⟨k, 0, none⟩ = w.cell? ⟨k, 0, none⟩ := World.cell?_of_block (w := w) (Below.heap_setCell _ _ _ _ h)
theorem frozenZ {w : World} {g k : Nat} {u : Value} (h : k ≠ g) : (w.setCell ⟨g, 0, none⟩ u).frozen? ⟨k, 0, none⟩ = w.frozen? ⟨k, 0, none⟩ := World.frozen?_of_block (w := w) (Below.heap_setCell _ _ _ _ h)
theorem own_set {e : TypeId} {w : World} {B g j : Nat} {v : Value} {xs : List Value} (h : OwV e w B v xs) (hg : g < B) (u : Value) : OwV e (w.setCell ⟨g, j, none⟩ u) B v xs := h.setOther (by
  cases hq : v.ownBlock with
  | none => exact .inl rfl
  | some q => right; intro e; cases e; have := h.lt _ hq; omega) u
theorem setCell_self {w : World} {g : Nat} {a : Value} (h : w.cell? ⟨g, 0, none⟩ = some a) (u : Value) : (w.setCell ⟨g, 0, none⟩ u).cell? ⟨g, 0, none⟩ = some u := by
  have hh : ∃ x, w.cell? ⟨g, 0, none⟩ = some x := ⟨_, h⟩
  simp [go_sem, h]
/-- Four boxes. -/
theorem boxes4 (w : World) (a b c d : Value) (t : TypeId) {W4 : World} (h : ((((w.alloc (.cells #[a] t)).alloc (.cells #[b] t)).alloc (.cells #[c] t)).alloc (.cells #[d] t)) = W4) : W4.heap.size = w.heap.size + 4 ∧ Below w.heap.size w W4 ∧ W4.cell? ⟨w.heap.size, 0, none⟩ = some a ∧ W4.cell? ⟨w.heap.size + 1, 0, none⟩ = some b ∧ W4.cell? ⟨w.heap.size + 1 + 1, 0, none⟩ = some c ∧ W4.cell? ⟨w.heap.size + 1 + 1 + 1, 0, none⟩ = some d ∧ W4.frozen? ⟨w.heap.size + 1 + 1, 0, none⟩ = false ∧ W4.frozen? ⟨w.heap.size + 1 + 1 + 1, 0, none⟩ = false := by
  subst h
  refine ⟨by simp, by (repeat' (first | (with_reducible exact Below.refl _ _) | (with_reducible assumption) | (with_reducible refine Below.alloc ?_ ?_ _) | (with_reducible refine Below.setCell ?_ ?_ _) | (with_reducible refine Below.drew ?_) | (with_reducible refine Below.via (by assumption) ?_ ?_) | go_size)), ?_, ?_, ?_, ?_, ?_, ?_⟩ <;> (go_simp; try rfl)

set_option maxRecDepth 100000 in
set_option maxHeartbeats 2000000 in
theorem div_impl (va vb : Value) (rs bs : List C2) (n m : Nat) (w : World) (ha : RdV w va (cx rs)) (hb : RdV w vb (cx bs)) (hn : bs.length = n + 1) (h1 : 1 ≤ n) (hm1 : 1 ≤ m) (hm : rs.length = m + n) (h3 : rs.length ≤ 16) (h4 : n ≤ 15)
    (hva : validF (rs.map nc) = true) (hvb : validF (bs.map nc) = true) (HS : RowKit.Hid (safeDiv (bs.map nc) (rs.map nc) n m)) (Q R : List C2)
    (HQ : RowKit.Hid (polyF (divSt (bs.map nc) (rs.map nc) n m m).2 = (Q, true))) (HR : RowKit.Hid (polyF ((divSt (bs.map nc) (rs.map nc) n m m).1.take n) = (R, true))) :
    Calls Tryz.prog 51 #[.agg #[va], .agg #[vb]] w fun e w' => ∃ vq vr qs ts, e = .returned (.tuple #[.agg #[vq], .agg #[vr], .bool true]) ∧ qs.map nc = Q ∧ ts.map nc = R ∧ OwV 36 w' w.heap.size vq (cx qs) ∧ OwV 36 w' w.heap.size vr (cx ts) ∧ Below w.heap.size w w' := by
  obtain ⟨aoa, capa, rfl, _⟩ := ha.shape
  rw [cx_length, hm] at ha ⊢
  have Ha := Lib.hid ha
  rcases hb.openC with ⟨rfl, _⟩ | ⟨b, off, cap, rfl, hbs, _, hc⟩
  · simp at hn
  have Hc := Lib.hid (show ∀ i, i < n + 1 → w.cell? ⟨b, off + i, none⟩ = some (.complex .f32 (bs.getD i (0, 0)).1 (bs.getD i (0, 0)).2) from fun i hi => by
    rw [hc i (by omega)]; simp [List.getD, show i < bs.length by omega])
  rw [hn] at hb ⊢
  have Hb := Lib.hid hb
  have HVA := Lib.hid hva
  have HVB := Lib.hid hvb
  have HG := Lib.hid (fun i => getD_nc bs i)
  have HN := Lib.hid hn
  have HM := Lib.hid hm
  have rs1 : 1 ≤ rs.length := by omega
  have rs2 : rs.length ≤ 17 := by omega
  have bs1 : 2 ≤ bs.length := by omega
  have bs2 : bs.length ≤ 17 := by omega
  have mn : m + n ≤ 16 := by omega
  clear ha hb hc hva hvb hm hn
  generalize hG : bs.map nc = G at *
  generalize hF : rs.map nc = F at *
  go_enter Tryz.func51, Tryz.ntmps51
  go_wp2_with fail
  generalize hW4 : ((((w.alloc (.cells #[.slice aoa (m + n) capa] 28)).alloc (.cells #[.slice (some ⟨b, off, none⟩) (n + 1) cap] 28)).alloc (.cells #[.slice none 0 0] 28)).alloc (.cells #[.slice none 0 0] 28)) = W4 at *
  obtain ⟨z4, b4, ca, cb, cc, cd, fc, fd⟩ := boxes4 _ _ _ _ _ _ hW4
  have B4 := Lib.hid b4
  have Ca := Lib.hid ca
  have Cb := Lib.hid cb
  have Cc := Lib.hid cc
  have Cd := Lib.hid cd
  have Fc := Lib.hid fc
  have Fd := Lib.hid fd
  have HaA := Lib.hid (Ha.out.below B4.out)
  have HbA := Lib.hid (Hb.out.below B4.out)
  clear hW4 b4 ca cb cc cd fc fd
  (go_at_call 62; ((with_reducible refine (valid_impl (.slice aoa (m + n) capa) rs _ HaA.out rs1 rs2).mono ?_); rintro e w1 ⟨rfl, hb1⟩; rw [hF, HVA.out]))
  have B1 := Lib.hid hb1
  have s1 := hb1.size
  clear hb1
  have ca1 := (B1.out.cell (p := ⟨w.heap.size, 0, none⟩) (by simp only; omega)).trans Ca.out
  have cb1 := (B1.out.cell (p := ⟨w.heap.size + 1, 0, none⟩) (by simp only; omega)).trans Cb.out
  go_wp2_with fail
  (go_at_call 62; ((with_reducible refine (valid_impl (.slice (some ⟨b, off, none⟩) (n + 1) cap) bs _ (HbA.out.below B1.out) (by omega) bs2).mono ?_); rintro e w2 ⟨rfl, hb2⟩; rw [hG, HVB.out]))
  have B2 := Lib.hid (B1.out.trans (hb2.mono s1))
  have s2 := B2.out.size
  clear hb2 ca1 cb1 s1
  have ca2 := (B2.out.cell (p := ⟨w.heap.size, 0, none⟩) (by simp only; omega)).trans Ca.out
  have cb2 := (B2.out.cell (p := ⟨w.heap.size + 1, 0, none⟩) (by simp only; omega)).trans Cb.out
  go_wp2_with fail
  (go_at_call 90; ((with_reducible refine (isZero_impl (.slice (some ⟨b, off, none⟩) (n + 1) cap) bs _ (HbA.out.below B2.out) bs1).mono ?_); rintro e w3 ⟨rfl, hb3⟩))
  have B3 := Lib.hid (B2.out.trans (hb3.mono s2))
  have s3 := B3.out.size
  clear hb3 ca2 cb2 s2 B1 B2
  have ca3 := (B3.out.cell (p := ⟨w.heap.size, 0, none⟩) (by simp only; omega)).trans Ca.out
  have cb3 := (B3.out.cell (p := ⟨w.heap.size + 1, 0, none⟩) (by simp only; omega)).trans Cb.out
  go_wp2_with fail
  (go_at_call 91; ((with_reducible refine (clone_impl (.slice aoa (m + n) capa) rs _ (HaA.out.below B3.out) rs1 h3).mono ?_); rintro e w5 ⟨vr, rfl, hrow, hb5⟩))
  have B5 := Lib.hid (B3.out.trans (hb5.mono s3))
  have s5 := B5.out.size
  have HR5 := Lib.hid (hrow.mono s3)
  clear hb5 hrow ca3 cb3 s3 B3
  obtain ⟨g, capr, rfl, hg1, hg2, hg3, hg4, _, _⟩ := HR5.out.open (by rw [← List.length_pos_iff, cx_length]; omega)
  rw [cx_length] at hg3
  have hmc : m + n ≤ capr := by have := HM.out; omega
  have HL := Lib.hid (show (cx rs).length = m + n by rw [cx_length, HM.out])
  have HR6 := Lib.hid (show OwV 36 w5 W4.heap.size (.slice (some ⟨g, 0, none⟩) (m + n) capr) (cx rs) from by have := HR5.out; rwa [HL.out] at this)
  rw [HL.out]
  clear HR5
  have q1 : IntKind.i64.wrap ((m : Int) + (n : Int) - (n : Int)) = (m : Int) := by rw [show (m : Int) + (n : Int) - (n : Int) = (m : Int) by omega]; exact IntWalk.i64_in _ ⟨by omega, by omega⟩
  have q2 : IntKind.i64.wrap ((m : Int) + (n : Int) - 1) = (m : Int) + (n : Int) - 1 := IntWalk.i64_in _ ⟨by omega, by omega⟩
  have q3 : IntKind.i64.wrap ((m : Int) + (n : Int) - 1 - (n : Int)) = (m : Int) - 1 := by rw [show (m : Int) + (n : Int) - 1 - (n : Int) = (m : Int) - 1 by omega]; exact IntWalk.i64_in _ ⟨by omega, by omega⟩
  have q4 : ¬ ((m : Int) + (n : Int) ≤ (n : Int)) := by omega
  go_wp2_with (at_make; go_must (refine wpList_makeV _ (.complex .f32 0 0) 8 infoC rfl (by decide) rfl _ _ _ rfl Tryz.underlying25 (m : Int) (m : Int) m rfl rfl rfl rfl (by omega) ?_); intro w6 hu hq3 hl3)
  obtain ⟨g2, hg2e⟩ : ∃ g2, g2 = w5.heap.size := ⟨_, rfl⟩
  rw [← hg2e] at hu ⊢
  have hgne : g ≠ g2 := by omega
  have B6 := Lib.hid (show Below W4.heap.size W4 w6 from B5.out.trans (hq3.mono s5))
  have HR7 := Lib.hid (HR6.out.below hq3)
  rw [cx_zeros] at hu
  have HU := Lib.hid (show OwV 36 w6 W4.heap.size (.slice (some ⟨g2, 0, none⟩) m m) (cx (List.replicate m (0, 0))) from (hu.own.mono (by omega)))
  have hg2l : g2 < w6.heap.size := by omega
  have hgl : g < w6.heap.size := by omega
  have hz4 : W4.heap.size ≤ g2 := by omega
  have H0 := Lib.hid (show divSt G F n m 0 = (F, List.replicate m (0, 0)) from rfl)
  clear hu hq3 hl3 HR6 B5 hg2e
  go_loopw [10] (fun kv wr => ∃ (j : Nat) (Rs Qs : List C2), j ≤ m ∧ kv = .int .i64 ((m : Int) - 1 - (j : Int)) ∧ Rs.map nc = (divSt G F n m j).1 ∧ Qs.map nc = (divSt G F n m j).2 ∧ Rs.length = m + n ∧ Qs.length = m ∧ OwV 36 wr W4.heap.size (.slice (some ⟨g, 0, none⟩) (m + n) capr) (cx Rs) ∧ OwV 36 wr W4.heap.size (.slice (some ⟨g2, 0, none⟩) m m) (cx Qs) ∧ Below W4.heap.size W4 wr ∧ w6.heap.size ≤ wr.heap.size) (fun kv _ => (intOf kv + 1).toNat)
  case atStart => exact ⟨0, rs, List.replicate m (0, 0), Nat.zero_le _, by first | rfl | go_num | (congr 1; omega), by rw [hF]; rfl, zeros_nc m, HM.out, by simp, HR7.out, HU.out, B6.out, Nat.le_refl _⟩
  case round =>
    obtain ⟨j, Rs, Qs, hj, rfl, hRs, hQs, hRl, hQl, hR, hQ', hbel, hsz⟩ := hrel
    have HRs := Lib.hid hRs
    have HQs := Lib.hid hQs
    have Hbel := Lib.hid hbel
    have HRo := Lib.hid hR
    have HQo := Lib.hid hQ'
    by_cases hjm : j < m
    · obtain ⟨k, hk⟩ : ∃ k : Nat, (m : Int) - 1 - (j : Int) = (k : Int) := ⟨m - 1 - j, by omega⟩
      have hkk : m - 1 - j = k := by omega
      obtain ⟨hs1, hs2⟩ := HS.out j hjm
      rw [hkk, ← hRs] at hs1
      have HDS := Lib.hid (show divSt G F n m (j + 1) = (divIn G (divQ G n k (Rs.map nc)) k (Rs.map nc) (n + 1), (Qs.map nc).set k (divQ G n k (Rs.map nc))) by rw [divSt, hkk, ← hRs, ← hQs])
      rw [hkk, ← hRs] at hs2
      rw [hk]
      clear hk
      have hkm : k < m := by omega
      obtain ⟨r1, _, _⟩ := own_cell hR (i := k + n) (by omega)
      obtain ⟨r2, r3, r4⟩ := own_cell hQ' (i := k) (by omega)
      have r5 := (hbel.cell (p := ⟨w.heap.size + 1, 0, none⟩) (by simp only; omega)).trans Cb.out
      have r6 := (hbel.cell (p := ⟨b, off + n, none⟩) (by simp only; omega)).trans ((B4.out.cell (p := ⟨b, off + n, none⟩) hbs).trans (Hc.out n (by omega)))
      have Hf := Lib.hid (show quoFit (nc (Rs.getD (k + n) (0, 0))) (nc (bs.getD n (0, 0))) from by rw [getD_nc] at hs1; rw [HG.out] at hs1; exact hs1)
      have Hq := Lib.hid (show divQ G n k (Rs.map nc) = quoC (nc (Rs.getD (k + n) (0, 0))) (nc (bs.getD n (0, 0))) by rw [divQ, getD_nc, HG.out])
      have Hs2 := Lib.hid hs2
      have q5 : IntKind.i64.wrap ((k : Int) + (n : Int)) = (k : Int) + (n : Int) := IntWalk.i64_in _ ⟨by omega, by omega⟩
      have e5 : ((k : Int) + (n : Int)).toNat = k + n := by omega
      have j1 : (0 : Int) ≤ (k : Int) + (n : Int) := by omega
      have j2 : (k : Int) + (n : Int) < (m : Int) + (n : Int) := by omega
      have j3 : (0 : Int) ≤ (k : Int) := by omega
      have j4 : (k : Int) < (m : Int) := by omega
      have j5 : (0 : Int) ≤ (n : Int) := by omega
      have j6 : (n : Int) < (n : Int) + 1 := by omega
      have HX := Lib.hid (show Rs.getD (k + n) (0, 0) = Rs.getD (k + n) (0, 0) from rfl)
      generalize hX : Rs.getD (k + n) (0, 0) = X at r1 Hf Hq
      generalize hY : bs.getD n (0, 0) = Y at r6 Hf Hq
      obtain ⟨X1, X2⟩ := X
      obtain ⟨Y1, Y2⟩ := Y
      clear hX hY HX hs1 hs2 hR hQ' hbel hRs hQs
      go_wp2_with fail
      refine wp_region_v 15 (GD 38 38 (quoC (nc (X1, X2)) (nc (Y1, Y2))) (quoC (nc (X1, X2)) (nc (Y1, Y2)))) (by kernel_rfl) (by kernel_rfl) ?_
      simp only [List.take_succ_cons, List.take_zero, List.drop_succ_cons, List.drop_zero]
      repeat (apply wpV_det; (exact rfl); (intro nq; go_simp; rfl); (intro K hK; go_simp; refine hK.use ?_; clear hK K))
      (apply wpV_call; (exact rfl); (intro nq; go_simp; first | exact ⟨rfl, rfl⟩ | rfl); (intro nq; refine (quo_impl (X1, X2) (Y1, Y2) Hf _).mono ?_; rintro e w' ⟨a, b, mm, rfl, ha, hb, rfl⟩; exact ⟨_, rfl, ⟨a, b, rfl, .inl ⟨rfl, Prod.ext ha hb⟩⟩, nq + mm, by simp [Nat.add_assoc]⟩); (rintro u ⟨a1, b1, rfl, h⟩); (have hA : nc (a1, b1) = quoC (nc (X1, X2)) (nc (Y1, Y2)) := by rcases h with ⟨_, h⟩ | ⟨_, h⟩ <;> exact h); clear h; (intro K hK; go_simp; refine hK.use ?_; clear hK K))
      repeat (apply wpV_det; (exact rfl); (intro nq; go_simp; rfl); (intro K hK; go_simp; refine hK.use ?_; clear hK K))
      refine wpV_nil (fun nq => ?_)
      have HA := Lib.hid hA
      clear hA
      obtain ⟨W7, hW7⟩ : ∃ W7, W7 = (wr.drewN nq).setCell ⟨g2, k, none⟩ (.complex .f32 a1 b1) := ⟨_, rfl⟩
      have B7 := Lib.hid (show Below W4.heap.size W4 W7 from by rw [hW7]; exact (below_drewN Hbel.out nq).setCell (by simp only; omega) _)
      have HR7 := Lib.hid (show OwV 36 W7 W4.heap.size (.slice (some ⟨g, 0, none⟩) (m + n) capr) (cx Rs) from by
        rw [hW7]; exact (HRo.out.below (below_drewN (Below.refl _ _) nq)).setOther (.inr (by simp [Value.ownBlock]; omega)) _)
      have HQ7 := Lib.hid (show OwV 36 W7 W4.heap.size (.slice (some ⟨g2, 0, none⟩) m m) (cx (Qs.set k (a1, b1))) from by
        rw [hW7, ← cx_set]; exact (HQo.out.below (below_drewN (Below.refl _ _) nq)).set k _)
      have s7 : W7.heap.size = wr.heap.size := by rw [hW7]; simp [World.setCell]
      have r7 : ((wr.drewN nq).setCell ⟨g2, k, none⟩ (.complex .f32 a1 b1)).cell? ⟨w.heap.size + 1, 0, none⟩ = some (.slice (some ⟨b, off, none⟩) (n + 1) cap) := by
        rw [← hW7]; exact (B7.out.cell (p := ⟨w.heap.size + 1, 0, none⟩) (by simp only; omega)).trans Cb.out
      go_wp2_with fail
      rw [← hW7]
      clear r7 r1 r2 r3 r5 r6 hW7 HRo HQo
      have HQA := Lib.hid (show quoC (nc (X1, X2)) (nc (Y1, Y2)) = nc (a1, b1) from HA.out.symm)
      rw [HQA.out] at Hq
      rw [Hq.out] at HDS Hs2
      have hkn : k + n < m + n := by omega
      clear Hf HA HQA
      go_loopw [78] (fun iv wi => ∃ (i : Nat) (Ts : List C2), i ≤ n + 1 ∧ iv = .int .i64 i ∧ Ts.map nc = divIn G (nc (a1, b1)) k (Rs.map nc) i ∧ Ts.length = m + n ∧ OwV 36 wi W4.heap.size (.slice (some ⟨g, 0, none⟩) (m + n) capr) (cx Ts) ∧ OwV 36 wi W4.heap.size (.slice (some ⟨g2, 0, none⟩) m m) (cx (Qs.set k (a1, b1))) ∧ Below W4.heap.size W4 wi ∧ W7.heap.size ≤ wi.heap.size) (fun iv _ => n + 1 - (intOf iv).toNat)
      case atStart => exact ⟨0, Rs, Nat.zero_le _, rfl, rfl, hRl, HR7.out, HQ7.out, B7.out, Nat.le_refl _⟩
      case round =>
        obtain ⟨i, Ts, hi, rfl, hTs, hTl, hT, hQi, hbi, hsi⟩ := hrel
        have HTo := Lib.hid hT
        have HQi := Lib.hid hQi
        have Hbi := Lib.hid hbi
        by_cases hin : i < n + 1
        · obtain ⟨t1, t3, t4⟩ := own_cell hT (i := k + i) (by omega)
          obtain ⟨t2, _, _⟩ := own_cell hQi (i := k) (by rw [List.length_set]; omega)
          have hqk : (Qs.set k (a1, b1)).getD k (0, 0) = (a1, b1) := by simp [List.getD, show k < Qs.length by omega]
          rw [hqk] at t2
          have t6 := (hbi.cell (p := ⟨b, off + i, none⟩) (by simp only; omega)).trans ((B4.out.cell (p := ⟨b, off + i, none⟩) hbs).trans (Hc.out i (by omega)))
          have HDI := Lib.hid (show divIn G (nc (a1, b1)) k (Rs.map nc) (i + 1) = (Ts.map nc).set (k + i) (subC (nc (Ts.getD (k + i) (0, 0))) (mulC (nc (a1, b1)) (nc (bs.getD i (0, 0))))) by
            rw [divIn, ← hTs, getD_nc, HG.out])
          have Hf := Lib.hid (show fit2 (timesF (nc (a1, b1)) (nc (bs.getD i (0, 0)))) from by rw [← HG.out]; exact Hs2.out i hin)
          have q5 : IntKind.i64.wrap ((k : Int) + (i : Int)) = (k : Int) + (i : Int) := IntWalk.i64_in _ ⟨by omega, by omega⟩
          have e5 : ((k : Int) + (i : Int)).toNat = k + i := by omega
          have j1 : (0 : Int) ≤ (k : Int) + (i : Int) := by omega
          have j2 : (k : Int) + (i : Int) < (m : Int) + (n : Int) := by omega
          have j3 : (0 : Int) ≤ (k : Int) := by omega
          have j4 : (k : Int) < (m : Int) := by omega
          have j5 : (0 : Int) ≤ (i : Int) := by omega
          have j6 : (i : Int) < (n : Int) + 1 := by omega
          generalize Ts.getD (k + i) (0, 0) = X at t1 HDI
          generalize bs.getD i (0, 0) = Y at t6 HDI Hf
          obtain ⟨U1, U2⟩ := X
          obtain ⟨V1, V2⟩ := Y
          clear hT hQi hbi hTs hqk
          go_wp2_with fail
          refine wp_region_v 18 (GD 44 40 (mulC (nc (a1, b1)) (nc (V1, V2))) (subC (nc (U1, U2)) (mulC (nc (a1, b1)) (nc (V1, V2))))) (by kernel_rfl) (by kernel_rfl) ?_
          simp only [List.take_succ_cons, List.take_zero, List.drop_succ_cons, List.drop_zero]
          repeat (apply wpV_det; (exact rfl); (intro nq; go_simp; rfl); (intro K hK; go_simp; refine hK.use ?_; clear hK K))
          (apply wpV_call; (exact rfl); (intro nq; go_simp; first | exact ⟨rfl, rfl⟩ | rfl); (intro nq; refine (mul_impl (a1, b1) (V1, V2) Hf _).mono ?_; rintro e w' ⟨a, b, mm, rfl, ha, hb, rfl⟩; exact ⟨_, rfl, ⟨a, b, rfl, .inl ⟨rfl, Prod.ext ha hb⟩⟩, nq + mm, by simp [Nat.add_assoc]⟩); (rintro u ⟨a2, b2, rfl, h⟩); (have hM : nc (a2, b2) = mulC (nc (a1, b1)) (nc (V1, V2)) := by rcases h with ⟨_, h⟩ | ⟨h, _⟩; exact h; exact absurd h (by decide)); clear h; (intro K hK; go_simp; refine hK.use ?_; clear hK K))
          repeat (apply wpV_det; (exact rfl); (intro nq; go_simp; rfl); (intro K hK; go_simp; refine hK.use ?_; clear hK K))
          (apply wpV_call; (exact rfl); (intro nq; go_simp; first | exact ⟨rfl, rfl⟩ | rfl); (intro nq; refine (minus_impl (U1, U2) (a2, b2) _).mono ?_; rintro e w' ⟨a, b, mm, rfl, ha, hb, rfl⟩; exact ⟨_, rfl, ⟨a, b, rfl, .inr ⟨rfl, by rw [← hM]; exact Prod.ext ha hb⟩⟩, nq + mm, by simp [Nat.add_assoc]⟩); (rintro u ⟨a3, b3, rfl, h⟩); (have hS : nc (a3, b3) = subC (nc (U1, U2)) (mulC (nc (a1, b1)) (nc (V1, V2))) := by rcases h with ⟨h, _⟩ | ⟨_, h⟩; exact absurd h (by decide); exact h); clear h; (intro K hK; go_simp; refine hK.use ?_; clear hK K))
          repeat (apply wpV_det; (exact rfl); (intro nq; go_simp; rfl); (intro K hK; go_simp; refine hK.use ?_; clear hK K))
          refine wpV_nil (fun nq => ?_)
          have HSS := Lib.hid hS
          clear hM hS
          obtain ⟨W8, hW8⟩ : ∃ W8, W8 = (wr.drewN nq).setCell ⟨g, k + i, none⟩ (.complex .f32 a3 b3) := ⟨_, rfl⟩
          have B8 := Lib.hid (show Below W4.heap.size W4 W8 from by rw [hW8]; exact (below_drewN Hbi.out nq).setCell (by simp only; omega) _)
          have HQ8 := Lib.hid (show OwV 36 W8 W4.heap.size (.slice (some ⟨g2, 0, none⟩) m m) (cx (Qs.set k (a1, b1))) from by
            rw [hW8]; exact (HQi.out.below (below_drewN (Below.refl _ _) nq)).setOther (.inr (by simp [Value.ownBlock]; omega)) _)
          have HR8 := Lib.hid (show OwV 36 W8 W4.heap.size (.slice (some ⟨g, 0, none⟩) (m + n) capr) (cx (Ts.set (k + i) (a3, b3))) from by
            rw [hW8, ← cx_set]; exact (HTo.out.below (below_drewN (Below.refl _ _) nq)).set (k + i) _)
          have s8 : W8.heap.size = wr.heap.size := by rw [hW8]; simp [World.setCell]
          go_wp2_with fail
          rw [← hW8]
          go_roundw
          case rel => exact ⟨i + 1, Ts.set (k + i) (a3, b3), by omega, by go_num, by rw [map_set_nc, HDI.out, HSS.out], by rw [List.length_set, hTl], HR8.out, HQ8.out, B8.out, by omega⟩
          case measure => simp [intOf]; omega
        · obtain rfl : i = n + 1 := by omega
          have HTs := Lib.hid hTs
          clear hT hQi hbi hTs
          go_wp2_with fail
          go_roundw
          case rel => exact ⟨j + 1, Ts, Qs.set k (a1, b1), by omega, by first | rfl | go_num | (congr 1; omega), by rw [HDS.out, HTs.out], by rw [HDS.out, map_set_nc], hTl, by rw [List.length_set, hQl], HTo.out, HQi.out, Hbi.out, by omega⟩
          case measure => (simp [intOf] <;> omega)
    · obtain rfl : j = m := by omega
      have e0 : (j : Int) - 1 - (j : Int) = -1 := by omega
      rw [e0]
      have nz : ((n : Int) == 0) = false := by simp; omega
      have HP1 := Lib.hid (show polyF (Qs.map nc) = (Q, true) from by rw [HQs.out]; exact HQ.out)
      have HP2 := Lib.hid (show polyF ((Rs.take n).map nc) = (R, true) from by rw [List.map_take, HRs.out]; exact HR.out)
      have HRt := Lib.hid (show OwV 36 wr W4.heap.size (.slice (some ⟨g, 0, none⟩) n capr) (cx (Rs.take n)) from by
        rw [cx_takes]; exact hR.take (by rw [cx_length]; omega) (by omega) (Nat.le_refl _))
      clear hR hQ' hbel hRs hQs
      have k1 : (0 : Int) ≤ (n : Int) := by omega
      have k2 : n ≤ capr := by omega
      go_wp2_with fail
      (go_at_call 71; ((with_reducible refine (polyOf_impl (.slice (some ⟨g2, 0, none⟩) j j) Qs _ W4.heap.size Hbel.out.size (by have := HQo.out; exact this) (by rw [← List.length_pos_iff]; omega) (by omega)).mono ?_)))
      rw [HP1.out]
      rintro e w7 ⟨v7, qs, rfl, hqs, ho7, hb7⟩
      have Hqs := Lib.hid hqs
      have B7 := Lib.hid (Hbel.out.trans (hb7.mono Hbel.out.size))
      have HRt7 := Lib.hid (HRt.out.below hb7)
      have Ho7 := Lib.hid ho7
      obtain ⟨a7, c7, rfl, _⟩ := ho7.rd.shape
      have s7 := B7.out.size
      clear hqs ho7 hb7
      go_wp2_with fail
      (go_at_call 71; ((with_reducible refine (polyOf_impl (.slice (some ⟨g, 0, none⟩) n capr) (Rs.take n) _ W4.heap.size (by simp; omega) (by have := HRt7.out; refine OwV.below this ?_; (repeat' (first | (with_reducible exact Below.refl _ _) | (with_reducible assumption) | (with_reducible refine Below.alloc ?_ ?_ _) | (with_reducible refine Below.setCell ?_ ?_ _) | (with_reducible refine below_drewN ?_ _) | (with_reducible refine Below.via (by assumption) ?_ ?_) | go_size))) (by rw [← List.length_pos_iff, List.length_take]; omega) (by rw [List.length_take]; omega)).mono ?_)))
      rw [HP2.out]
      rintro e w8 ⟨v8, ts, rfl, hts, ho8, hb8⟩
      obtain ⟨a8, c8, rfl, _⟩ := ho8.rd.shape
      have Hts := Lib.hid hts
      have Ho8 := Lib.hid ho8
      have B8 := Lib.hid (show Below W4.heap.size W4 w8 from (B7.out.trans ((Below.refl _ _).alloc s7 _)).trans (hb8.mono (by simp; omega)))
      have s8 := B8.out.size
      have c13 : w8.cell? ⟨w7.heap.size, 0, none⟩ = some (.slice a7 qs.length c7) := (hb8.cell (p := ⟨w7.heap.size, 0, none⟩) (by simp)).trans (World.cell?_alloc_new w7 #[.slice a7 qs.length c7] 28 0)
      have Ho7' := Lib.hid (show OwV 36 w8 W4.heap.size (.slice a7 qs.length c7) (cx qs) from by have := Ho7.out; rw [cx_length] at this; exact (this.below ((Below.refl _ _).alloc (Nat.le_refl _) _)).below hb8)
      have hl78 : w7.heap.size < w8.heap.size := by have := hb8.size; simp at this; omega
      obtain ⟨ch8, fh8⟩ := bcell B8.out
      have cc8 : w8.cell? ⟨w.heap.size + 1 + 1, 0, none⟩ = some (.slice none 0 0) := (B8.out.cell (p := ⟨w.heap.size + 1 + 1, 0, none⟩) (by simp only; omega)).trans Cc.out
      have cd8 : w8.cell? ⟨w.heap.size + 1 + 1 + 1, 0, none⟩ = some (.slice none 0 0) := (B8.out.cell (p := ⟨w.heap.size + 1 + 1 + 1, 0, none⟩) (by simp only; omega)).trans Cd.out
      have fc8 : w8.frozen? ⟨w.heap.size + 1 + 1, 0, none⟩ = false := by rw [fh8 _ _ (by omega)]; exact Fc.out
      have fd8 : w8.frozen? ⟨w.heap.size + 1 + 1 + 1, 0, none⟩ = false := by rw [fh8 _ _ (by omega)]; exact Fd.out
      rw [cx_length] at Ho8
      clear hts ho8 hb8 ch8 fh8
      rw [cx_length]
      go_wp2_with fail
      have B9 := Lib.hid (show Below w8.heap.size w8 (w8.alloc (.cells #[.slice a8 ts.length c8] 28)) from (Below.refl _ _).alloc (Nat.le_refl _) _)
      have d9 : (w8.alloc (.cells #[.slice a8 ts.length c8] 28)).cell? ⟨w8.heap.size, 0, none⟩ = some (.slice a8 ts.length c8) := World.cell?_alloc_new w8 #[.slice a8 ts.length c8] 28 0
      generalize w8.alloc (.cells #[.slice a8 ts.length c8] 28) = W9 at *
      obtain ⟨ch9, fh9⟩ := bcell B9.out
      have n1 : w7.heap.size ≠ w8.heap.size := by omega
      have n2 : w7.heap.size ≠ w.heap.size + 1 + 1 := by omega
      have n3 : w7.heap.size ≠ w.heap.size + 1 + 1 + 1 := by omega
      have n4 : w8.heap.size ≠ w.heap.size + 1 + 1 := by omega
      have n5 : w8.heap.size ≠ w.heap.size + 1 + 1 + 1 := by omega
      have c9 : W9.cell? ⟨w7.heap.size, 0, none⟩ = some (.slice a7 qs.length c7) := (ch9 _ _ (by omega)).trans c13
      have cc9 := (ch9 (w.heap.size + 1 + 1) 0 (by omega)).trans cc8
      have cd9 := (ch9 (w.heap.size + 1 + 1 + 1) 0 (by omega)).trans cd8
      have fc9 := (fh9 (w.heap.size + 1 + 1) 0 (by omega)).trans fc8
      have fd9 := (fh9 (w.heap.size + 1 + 1 + 1) 0 (by omega)).trans fd8
      clear ch9 fh9 c13 cc8 cd8 fc8 fd8
      go_region_held3 (fun w' => w'.cell? ⟨w7.heap.size, 0, none⟩ = some (.slice a7 qs.length c7) ∧ w'.cell? ⟨w8.heap.size, 0, none⟩ = some (.slice a8 ts.length c8)) (((try dsimp only); (refine And.intro ?_ ?_) <;> (simp only [World.cell?_drew]; first | assumption | (rw [cellZ (by omega)]; assumption) | (rw [cellZ (by omega), World.cell?_drew, cellZ (by omega)]; assumption) | (rw [cellZ (by omega), cellZ (by omega)]; assumption)))) (fail)
      go_wp2_with fail
      have O7 := (own_set (j := 0) (own_set (j := 0) ((Ho7'.out.below B9.out)) (show w.heap.size + 1 + 1 < W4.heap.size by omega) (.slice a7 qs.length c7)) (show w.heap.size + 1 + 1 + 1 < W4.heap.size by omega) (.slice a8 ts.length c8)).below (below_drewN (Below.refl _ _) 1)
      have O8 := (own_set (j := 0) (own_set (j := 0) ((Ho8.out.below B9.out)) (show w.heap.size + 1 + 1 < W4.heap.size by omega) (.slice a7 qs.length c7)) (show w.heap.size + 1 + 1 + 1 < W4.heap.size by omega) (.slice a8 ts.length c8)).below (below_drewN (Below.refl _ _) 1)
      have BF := below_drewN (((B4.out.trans ((B8.out.trans (B9.out.mono s8)).mono (by omega))).setCell (p := ⟨w.heap.size + 1 + 1, 0, none⟩) (by simp only; omega) (.slice a7 qs.length c7)).setCell (p := ⟨w.heap.size + 1 + 1 + 1, 0, none⟩) (by simp only; omega) (.slice a8 ts.length c8)) 1
      have R7 := Lib.hid (show OwV 36 ((W9.setCell ⟨w.heap.size + 1 + 1, 0, none⟩ (.slice a7 qs.length c7)).setCell ⟨w.heap.size + 1 + 1 + 1, 0, none⟩ (.slice a8 ts.length c8)).drew w.heap.size (.slice a7 qs.length c7) (cx qs) from O7.mono (by omega))
      have R8 := Lib.hid (show OwV 36 ((W9.setCell ⟨w.heap.size + 1 + 1, 0, none⟩ (.slice a7 qs.length c7)).setCell ⟨w.heap.size + 1 + 1 + 1, 0, none⟩ (.slice a8 ts.length c8)).drew w.heap.size (.slice a8 ts.length c8) (cx ts) from O8.mono (by omega))
      have BF' := Lib.hid (show Below w.heap.size w ((W9.setCell ⟨w.heap.size + 1 + 1, 0, none⟩ (.slice a7 qs.length c7)).setCell ⟨w.heap.size + 1 + 1 + 1, 0, none⟩ (.slice a8 ts.length c8)).drew from BF)
      have cf : ((W9.setCell ⟨w.heap.size + 1 + 1, 0, none⟩ (.slice a7 qs.length c7)).setCell ⟨w.heap.size + 1 + 1 + 1, 0, none⟩ (.slice a8 ts.length c8)).drew.cell? ⟨w.heap.size + 1 + 1, 0, none⟩ = some (.slice a7 qs.length c7) := by
        rw [World.cell?_drew, cellZ (by omega)]; exact setCell_self cc9 _
      have cg : ((W9.setCell ⟨w.heap.size + 1 + 1, 0, none⟩ (.slice a7 qs.length c7)).setCell ⟨w.heap.size + 1 + 1 + 1, 0, none⟩ (.slice a8 ts.length c8)).drew.cell? ⟨w.heap.size + 1 + 1 + 1, 0, none⟩ = some (.slice a8 ts.length c8) := by
        rw [World.cell?_drew]; exact setCell_self ((cellZ (by omega)).trans cd9) _
      generalize ((W9.setCell ⟨w.heap.size + 1 + 1, 0, none⟩ (.slice a7 qs.length c7)).setCell ⟨w.heap.size + 1 + 1 + 1, 0, none⟩ (.slice a8 ts.length c8)).drew = WF at *
      clear O7 O8 BF
      (try simp only [Exit.inBlock, Exit.then])
      refine bodyPost_ret (by simp [results, Tryz.results51, go_sem, cf, cg]; try rfl) rfl ?_
      exact ⟨_, _, qs, ts, rfl, Hqs.out, Hts.out, R7.out, R8.out, BF'.out⟩
end Go.Proofs.YtdnoilcfgicnnaaGreat
