/- Polynomials of one, two and three drawn roots: six Newton steps are safe from all points of the grid. Conditions: roots as they are drawn. -/
import Derived.Test.YtalfkkagbajjcaaZ14
import Derived.Test.YtalfkkagbajjcaaZ15
import Derived.Test.YtalfkkagbajjcaaZ16
import Derived.Test.YtalfkkagbajjcaaZ17
import Derived.Test.YtalfkkagbajjcaaZ18
import Derived.Test.YtalfkkagbajjcaaZ19
import Derived.Test.YtalfkkagbajjcaaZ20
import Derived.Test.YtalfkkagbajjcaaZ21
import Derived.Test.YtalfkkagbajjcaaZ6
import Derived.Test.YtalfkkagbajjcaaZ8
import Derived.Deep.QuietTactic
namespace Go.Proofs.Ytalfkkagbajjcaa
set_option linter.unusedSimpArgs false
set_option linter.unusedVariables false
open Go

theorem cubAll_true {j : Nat} (h : j < 85) : cubAll j = true := by
  by_cases h1 : j < 15
  · exact kAlla j (by omega) h1
  by_cases h2 : j < 30
  · exact kAllb j (by omega) h2
  by_cases h3 : j < 45
  · exact kAllc j (by omega) h3
  by_cases h4 : j < 60
  · exact kAlld j (by omega) h4
  by_cases h5 : j < 73
  · exact kAlle j (by omega) h5
  · exact kAllf j (by omega) h

/-- Root k, as it is drawn. -/
def DR (w : C2) (k : Nat) : Prop := ∃ j x y, j < 85 ∧ ((rootX k j : Nat) : Int) = x + 16 ∧ ((rootY j : Nat) : Int) = y + 16 ∧ Gr w x y 3
theorem rootX_val (k j : Nat) : rootX k j = 8 * k + 4 + j / 17 := rfl
theorem rootY_val (j : Nat) : rootY j = 8 + j % 17 := rfl

theorem gr_le {w : C2} {a b : Int} {j : Nat} {q : Rat} (h : Gr w a b j) (n : Nat) (hn : a.natAbs + b.natAbs ≤ n) (hq : (n : Rat) * p2 (-(j : Int)) ≤ q) : N (cv w) ≤ q := by
  rw [gr_norm (n := a.natAbs + b.natAbs) h (by omega)]
  exact nat_le_q hn (Rat.le_of_lt (p2_pos _)) hq
theorem gr_re {w : C2} {a b : Int} {j : Nat} (h : Gr w a b j) (ha : a ≠ 0) (hj : j ≤ 6) : p2 (-6) ≤ A (cv w).re := by
  have e : (cv w).re = (a : Rat) * p2 (-(j : Int)) := congrArg Q2.re h.2
  rw [e, A_dy]
  have h1 : ((1 : Nat) : Rat) ≤ ((a.natAbs : Nat) : Rat) := by exact_mod_cast (show 1 ≤ a.natAbs by omega)
  have h2 := Rat.mul_le_mul_of_nonneg_right h1 (Rat.le_of_lt (p2_pos (-(j : Int))))
  have h3 := p2_mono (show (-6 : Int) ≤ -(j : Int) by omega)
  rw [show ((1 : Nat) : Rat) = 1 from rfl, Rat.one_mul] at h2
  exact Rat.le_trans h3 h2
theorem gr_im {w : C2} {a b : Int} {j : Nat} (h : Gr w a b j) (ha : b ≠ 0) (hj : j ≤ 6) : p2 (-6) ≤ A (cv w).im := by
  have e : (cv w).im = (b : Rat) * p2 (-(j : Int)) := congrArg Q2.im h.2
  rw [e, A_dy]
  have h1 : ((1 : Nat) : Rat) ≤ ((b.natAbs : Nat) : Rat) := by exact_mod_cast (show 1 ≤ b.natAbs by omega)
  have h2 := Rat.mul_le_mul_of_nonneg_right h1 (Rat.le_of_lt (p2_pos (-(j : Int))))
  have h3 := p2_mono (show (-6 : Int) ≤ -(j : Int) by omega)
  rw [show ((1 : Nat) : Rat) = 1 from rfl, Rat.one_mul] at h2
  exact Rat.le_trans h3 h2
theorem gr_one {w : C2} (h : Gr w 1 0 0) : cv w = one2 := h.2.trans (q2e (by decide +kernel) (by decide +kernel))

/-- What the law needs of the polynomial. -/
def SafePoly (L : List C2) (m : Nat) : Prop := safeRoots L ∧ ∃ F, polyF (rootsL L m) = (F, true) ∧ rootedF F = true ∧ 1 ≤ F.length ∧ F.length ≤ 4 ∧ ∀ z, GridPt z → SafeFrom F z

theorem poly_full {F : List C2} {w : C2} (hl : 1 < F.length) (hf : F.all finC = true) (hw : F.getD (F.length - 1) (0, 0) = w) (h1 : Gr w 1 0 0) : polyF F = (F, true) ∧ rootedF F = true := by
  have hz : zeroC (F.getD (F.length - 1) (0, 0)) = false := by rw [hw]; exact not_zeroC h1.1 (by rw [gr_one h1]; decide)
  obtain ⟨a, b⟩ := poly_of hl hf hz
  refine ⟨b, ?_⟩
  unfold rootedF
  rw [a]; simp; omega
theorem finG {w : C2} {a b : Int} {j : Nat} (h : Gr w a b j) : finC w = true := (fC_iff w).1 h.1

theorem safe1 {L : List C2} (hL : L.length = 1) (d0 : DR (L.getD 0 (0, 0)) 0) : SafePoly L 1 := by
  obtain ⟨j1, x1, y1, hj1, hx1, hy1, g1⟩ := d0
  rw [rootX_val] at hx1
  rw [rootY_val] at hy1
  obtain ⟨T0, T1, hF, t0, t1, s0⟩ := roots1 g1 (by omega)
  obtain ⟨p1, p2'⟩ := poly_full (F := [T0, T1]) (w := T1) (by simp) (by simp [finG t0, finG t1]) rfl t1
  refine ⟨?_, [T0, T1], by rw [hF]; exact p1, p2', by simp, by simp, fun z hz => ?_⟩
  · intro i hi k hk
    rw [hL] at hi
    obtain rfl : i = 0 := by omega
    exact s0 k hk
  · exact keep_polish (fun z h1 h2 => linA t0.1 t1.1 (gr_one t1) (gr_le t0 20 (by omega) (by decide +kernel)) h1 h2) 6 z hz.1 hz.le
theorem safe2 {L : List C2} (hL : L.length = 2) (d0 : DR (L.getD 0 (0, 0)) 0) (d1 : DR (L.getD 1 (0, 0)) 1) : SafePoly L 2 := by
  obtain ⟨j1, x1, y1, hj1, hx1, hy1, g1⟩ := d0
  obtain ⟨j2, x2, y2, hj2, hx2, hy2, g2⟩ := d1
  have hx1' := hx1; have hy1' := hy1; have hx2' := hx2; have hy2' := hy2
  rw [rootX_val] at hx1' hx2'
  rw [rootY_val] at hy1' hy2'
  obtain ⟨U0, U1, hU, u0, u1', s0⟩ := roots1 g1 (by omega)
  obtain ⟨T0, T1, T2, hF, t0, t1, t2, s1⟩ := roots2 g1 g2 (by omega) (by omega)
  obtain ⟨p1, p2'⟩ := poly_full (F := [T0, T1, T2]) (w := T2) (by simp) (by simp [finG t0, finG t1, finG t2]) rfl t2
  refine ⟨?_, [T0, T1, T2], by rw [hF]; exact p1, p2', by simp, by simp, fun z hz => ?_⟩
  · intro i hi k hk
    rw [hL] at hi
    rcases (by omega : i = 0 ∨ i = 1) with rfl | rfl
    · exact s0 k hk
    · exact s1 k hk
  · by_cases hc : y1 + y2 = 0
    · have h := kQua
      unfold quaAll at h
      exact quaB cst_ok h hj1 hj2 hx1 hy1 hx2 hy2 (by omega) (by omega) (by omega) (by omega) hc t0 t1 t2 hz
    · have q1 := mulb (a := x1) (b := x2) (U := 12) (V := 4) (by omega) (by omega)
      have q2 := mulb (a := y1) (b := y2) (U := 8) (V := 8) (by omega) (by omega)
      have q3 := mulb (a := x1) (b := y2) (U := 12) (V := 8) (by omega) (by omega)
      have q4 := mulb (a := y1) (b := x2) (U := 8) (V := 4) (by omega) (by omega)
      exact keep_polish (fun z h1 h2 => quaA t0.1 t1.1 t2.1 (gr_one t2) (gr_le t1 32 (by omega) (by decide +kernel)) (gr_le t0 256 (by omega) (by decide +kernel)) (gr_re t1 (by omega) (by decide)) (gr_im t1 (by omega) (by decide)) h1 h2) 6 z hz.1 hz.le
theorem safe3 {L : List C2} (hL : L.length = 3) (d0 : DR (L.getD 0 (0, 0)) 0) (d1 : DR (L.getD 1 (0, 0)) 1) (d2 : DR (L.getD 2 (0, 0)) 2) : SafePoly L 3 := by
  obtain ⟨j1, x1, y1, hj1, hx1, hy1, g1⟩ := d0
  obtain ⟨j2, x2, y2, hj2, hx2, hy2, g2⟩ := d1
  obtain ⟨j3, x3, y3, hj3, hx3, hy3, g3⟩ := d2
  have hx1' := hx1; have hy1' := hy1; have hx2' := hx2; have hy2' := hy2; have hx3' := hx3; have hy3' := hy3
  rw [rootX_val] at hx1' hx2' hx3'
  rw [rootY_val] at hy1' hy2' hy3'
  obtain ⟨U0, U1, hU, u0, u1', s0⟩ := roots1 g1 (by omega)
  obtain ⟨V0, V1, V2, hV, v0, v1, v2, s1⟩ := roots2 g1 g2 (by omega) (by omega)
  obtain ⟨T0, T1, T2, T3, hF, t0, t1, t2, t3, s2⟩ := roots3 g1 g2 g3 (by omega) (by omega) (by omega)
  obtain ⟨p1, p2'⟩ := poly_full (F := [T0, T1, T2, T3]) (w := T3) (by simp) (by simp [finG t0, finG t1, finG t2, finG t3]) rfl t3
  refine ⟨?_, [T0, T1, T2, T3], by rw [hF]; exact p1, p2', by simp, by simp, fun z hz => ?_⟩
  · intro i hi k hk
    rw [hL] at hi
    rcases (by omega : i = 0 ∨ i = 1 ∨ i = 2) with rfl | rfl | rfl
    · exact s0 k hk
    · exact s1 k hk
    · exact s2 k hk
  · by_cases hc : x1 * x2 - y1 * y2 + ((x1 + x2) * x3 - (y1 + y2) * y3) = 0 ∨ x1 * y2 + y1 * x2 + ((x1 + x2) * y3 + (y1 + y2) * x3) = 0
    · have h := cubAll_true hj1
      unfold cubAll at h
      exact cubB cst_ok h hj2 hj3 hx1 hy1 hx2 hy2 hx3 hy3 (by omega) (by omega) (by omega) (by omega) (by omega) (by omega) hc t0 t1 t2 t3 hz
    · have q1 := mulb (a := x1) (b := x2) (U := 12) (V := 4) (by omega) (by omega)
      have q2 := mulb (a := y1) (b := y2) (U := 8) (V := 8) (by omega) (by omega)
      have q3 := mulb (a := x1) (b := y2) (U := 12) (V := 8) (by omega) (by omega)
      have q4 := mulb (a := y1) (b := x2) (U := 8) (V := 4) (by omega) (by omega)
      generalize hp : x1 * x2 - y1 * y2 = p at *
      generalize hq : x1 * y2 + y1 * x2 = q at *
      have bp : -112 ≤ p ∧ p ≤ 112 := by omega
      have bq : -128 ≤ q ∧ q ≤ 128 := by omega
      have w1 := mulb (a := p) (b := x3) (U := 112) (V := 8) (by omega) (by omega)
      have w2 := mulb (a := q) (b := y3) (U := 128) (V := 8) (by omega) (by omega)
      have w3 := mulb (a := p) (b := y3) (U := 112) (V := 8) (by omega) (by omega)
      have w4 := mulb (a := q) (b := x3) (U := 128) (V := 8) (by omega) (by omega)
      have z1 := mulb (a := x1 + x2) (b := x3) (U := 16) (V := 8) (by omega) (by omega)
      have z2 := mulb (a := y1 + y2) (b := y3) (U := 16) (V := 8) (by omega) (by omega)
      have z3 := mulb (a := x1 + x2) (b := y3) (U := 16) (V := 8) (by omega) (by omega)
      have z4 := mulb (a := y1 + y2) (b := x3) (U := 16) (V := 8) (by omega) (by omega)
      exact keep_polish (fun z h1 h2 => cubA t0.1 t1.1 t2.1 t3.1 (gr_one t3) (gr_le t2 36 (by omega) (by decide +kernel)) (gr_le t1 768 (by omega) (by decide +kernel)) (gr_le t0 4096 (by omega) (by decide +kernel))
        (gr_re t1 (by omega) (by decide)) (gr_im t1 (by omega) (by decide)) h1 h2) 6 z hz.1 hz.le

/-- The corners of the box. -/
abbrev loW : C2 := (3221225472, 3221487616)
abbrev hiW : C2 := (1073872896, 1073741824)
theorem grid_pt {i k : Nat} (hi : i < 4) (hk : k < 4) : GridPt (ptF (nc loW) (subC (nc hiW) (nc loW)) i k) := by
  have hx : ∀ i, i < 4 → fN .f32 (ptF (nc loW) (subC (nc hiW) (nc loW)) i 0).1 = true ∧ vN .f32 (ptF (nc loW) (subC (nc hiW) (nc loW)) i 0).1 = ((gpx i : Rat) - 17592186044416) * ee := by decide +kernel
  have hy : ∀ k, k < 4 → fN .f32 (ptF (nc loW) (subC (nc hiW) (nc loW)) 0 k).2 = true ∧ vN .f32 (ptF (nc loW) (subC (nc hiW) (nc loW)) 0 k).2 = ((gpy k : Rat) - 17592186044416) * ee := by decide +kernel
  obtain ⟨a1, a2⟩ := hx i hi
  obtain ⟨b1, b2⟩ := hy k hk
  exact ⟨⟨a1, b1⟩, i, k, hi, hk, q2e a2 b2⟩
/-- The whole grid is safe. -/
theorem grid_safe {F L : List C2} (h : ∀ z, GridPt z → SafeFrom F z) (hL : ∀ j, j < L.length → fC (L.getD j (0, 0)) ∧ N (cv (L.getD j (0, 0))) ≤ p2 41) : safeGrid F L (nc loW) (subC (nc hiW) (nc loW)) := by
  intro i k hi hk
  have hz := grid_pt hi hk
  obtain ⟨s1, s2, s3⟩ := h _ hz
  exact ⟨(fC_iff _).1 hz.1, s1, fun j hj => dist_fit (hL j hj).1 s2 (hL j hj).2 s3⟩
theorem DR.small {w : C2} {k : Nat} (h : DR w k) (hk : k < 6) : fC w ∧ N (cv w) ≤ p2 41 := by
  obtain ⟨j, x, y, hj, hx, hy, g⟩ := h
  rw [rootX_val] at hx
  rw [rootY_val] at hy
  exact ⟨g.1, gr_le g 128 (by omega) (by decide +kernel)⟩
end Go.Proofs.Ytalfkkagbajjcaa

/- The roots that are drawn. Conditions: bytes; at most 6 roots. -/
namespace Go.Proofs.Ytalfkkagbajjcaa
set_option linter.unusedSimpArgs false
set_option linter.unusedVariables false
open Go Go.RowKit

theorem Only.grown {g : Nat} {w w' : World} (h : Only g (g + 1) w w') : w.grownBy w' (some g) := ⟨h.os, h.tape, h.output, h.size, fun k hk hne => h.block k hk (by
  have : k ≠ g := fun e => hne (by rw [e])
  omega)⟩

def reW (k a : Nat) : Nat := fop .sub .f32 (fop .add .f32 (nrm .f32 (floatOfInt .f32 (k : Int))) (fop .quo .f32 (nrm .f32 (floatOfInt .f32 (a : Int))) (nrm .f32 1090519040))) (nrm .f32 1069547520)
def imW (b : Nat) : Nat := fop .quo .f32 (nrm .f32 (floatOfInt .f32 ((b : Int) - 8))) (nrm .f32 1090519040)
theorem reW_ok : ∀ k, k < 6 → ∀ a, a < 5 → fN .f32 (reW k a) = true ∧ vN .f32 (reW k a) = ((8 * (k : Int) - 12 + (a : Int) : Int) : Rat) * p2 (-3) := by decide +kernel
theorem imW_ok : ∀ b, b < 17 → fN .f32 (imW b) = true ∧ vN .f32 (imW b) = (((b : Int) - 8 : Int) : Rat) * p2 (-3) := by decide +kernel
theorem drawn_DR {k a b x y : Nat} (hk : k < 6) (ha : a < 5) (hb : b < 17) (hx : nrm .f32 x = reW k a) (hy : nrm .f32 y = imW b) : DR (nc (x, y)) k := by
  obtain ⟨x1, x2⟩ := reW_ok k hk a ha
  obtain ⟨y1, y2⟩ := imW_ok b hb
  refine ⟨17 * a + b, 8 * (k : Int) - 12 + (a : Int), (b : Int) - 8, by omega, ?_, ?_, ⟨?_, ?_⟩, ?_⟩
  · rw [rootX_val]; omega
  · rw [rootY_val]; omega
  · show fN .f32 (nrm .f32 x) = true; rw [hx]; exact x1
  · show fN .f32 (nrm .f32 y) = true; rw [hy]; exact y1
  · exact q2e (show vN .f32 (nrm .f32 x) = ((8 * (k : Int) - 12 + (a : Int) : Int) : Rat) * p2 (-3) by rw [hx, x2]) (show vN .f32 (nrm .f32 y) = (((b : Int) - 8 : Int) : Rat) * p2 (-3) by rw [hy, y2])

set_option maxRecDepth 100000 in
set_option maxHeartbeats 4000000 in
theorem b10Roots_spec (v : Value) (zs : List Int) (n : Nat) (w : World) (hv : RdB w v zs) (hl : zs.length ≤ 1048576) (hn : n ≤ 6) :
    Calls Try.prog 6 #[v, .int .i64 n] w fun e w' => ∃ v' ls, e = .returned v' ∧ ls.length = n ∧ (∀ k, k < n → DR (nc (ls.getD k (0, 0))) k) ∧ OwV 35 w' w.heap.size v' (cx ls) ∧ Below w.heap.size w w' := by
  have Hv := Lib.hid hv
  have HB := Lib.hid (fun hn => hv.blk hn)
  obtain ⟨ao, cap, rfl⟩ := hv.shape
  clear hv
  go_enter Try.func6, Try.ntmps6
  go_wp2_with fail
  refine (from_spec _ zs _ Hv.out hl).mono ?_
  rintro e w1 ⟨rfl, hs1, hb1⟩
  have hg1 : w.heap.size < w1.heap.size := World.block_lt_of_cell? _ _ hs1.1
  generalize hG : w.heap.size = G at *
  have Hs1 := Lib.hid hs1
  have Hb1 := Lib.hid hb1
  clear hs1 hb1 Hv
  go_wp2_with fail
  go_loopw [6, 7] (fun ov kv wr => ∃ (k kk : Nat) (ls : List C2), k ≤ n ∧ kv = .int .i64 k ∧ kk ≤ 4 * k ∧ RowV 35 wr w1.heap.size ov (cx ls) ∧ ls.length = k ∧ (∀ i, i < k → DR (nc (ls.getD i (0, 0))) i) ∧ SrcI wr G (.slice ao zs.length cap) zs kk ∧ Below G w wr ∧ w1.heap.size ≤ wr.heap.size) (fun _ kv _ => n - (intOf kv).toNat)
  case atStart =>
    refine ⟨0, 0, [], Nat.zero_le _, rfl, Nat.le_refl _, row_nil (Nat.le_refl _) _, rfl, fun i hi => absurd hi (by omega), ?_, Hb1.out.alloc (by omega) _, by simp⟩
    exact Hs1.out.below ((Below.refl _ _).alloc (Nat.le_refl _) _)
  case round =>
    obtain ⟨k, kk, ls, hk, rfl, hkk, hrow, hls, hD, hs, hb, hW1⟩ := hrel
    by_cases hlt : k < n
    · have Hs := Lib.hid hs
      have Hrow := Lib.hid hrow
      have Hb := Lib.hid hb
      have HD := Lib.hid hD
      have HLS := Lib.hid hls
      clear hs hrow hb hD hls Hs1 Hb1
      have j1 : (k : Int) < (n : Int) := by omega
      go_wp2_with fail
      (go_at_call 18; ((with_reducible refine (pick_spec G _ zs kk 5 _ Hs.out (by omega) (by omega) (by omega)).mono ?_); rintro e w2 ⟨z, k2, rfl, hz0, hz1, hk1, hk2, hs2, ho2⟩))
      obtain ⟨a, rfl⟩ := Int.eq_ofNat_of_zero_le hz0
      have Hs2 := Lib.hid hs2
      have Hrow2 := Lib.hid (show RowV 35 w2 w1.heap.size _ _ from World.ownsRow.kept Hrow.out ho2.grown (by
        cases hq : Value.ownBlock _ with
        | none => exact .inl rfl
        | some q => right; intro e; cases e; have := (RowV.lt Hrow.out) _ hq; omega))
      have Hb2 := Lib.hid (Hb.out.trans (ho2.toBelow (Nat.le_refl _) (by have := Hb.out.size; omega)))
      have ha5 : a < 5 := by omega
      have HW2 := Lib.hid (show w1.heap.size ≤ w2.heap.size from Nat.le_trans hW1 ho2.size)
      clear hs2 ho2 hz0 hz1
      go_wp2_with (with_reducible refine wpList_fop rfl _ _ _ _ _ rfl rfl .f32 _ _ rfl rfl ?_; intro r m hr; (first | (have _t := HQ1; first | (have _t2 := HQ2; have HQ3 := Lib.hid hr) | have HQ2 := Lib.hid hr) | have HQ1 := Lib.hid hr))
      have HRE := Lib.hid (show nrm .f32 r = reW k a by rw [HQ3.out, HQ2.out, HQ1.out]; rfl)
      clear HQ1 HQ2 HQ3 hr
      have Hs3 := Lib.hid (fun mm => Hs2.out.below (drewN_below w2 mm))
      have Hrow3 := Lib.hid (fun mm => Hrow2.out.below (drewN_below w2 mm))
      have Hb3 := Lib.hid (fun mm => below_drewN Hb2.out mm)
      clear Hs2 Hrow2
      have hG2 : G ≤ w2.heap.size := by have := Hb2.out.size; omega
      have hW2 : w1.heap.size ≤ w2.heap.size := HW2.out
      (go_at_call 18; ((with_reducible refine (pick_spec G _ zs k2 17 _ (Hs3.out _) (by omega) (by omega) (by omega)).mono ?_); rintro e w3 ⟨z, k3, rfl, hz0, hz1, hk3, hk4, hs3, ho3⟩))
      obtain ⟨b, rfl⟩ := Int.eq_ofNat_of_zero_le hz0
      have Hs4 := Lib.hid hs3
      have Hrow4 := Lib.hid (show RowV 35 w3 w1.heap.size _ _ from World.ownsRow.kept (Hrow3.out _) ho3.grown (by
        cases hq : Value.ownBlock _ with
        | none => exact .inl rfl
        | some q => right; intro e; cases e; have := (RowV.lt (Hrow3.out 0)) _ hq; omega))
      have Hb4 := Lib.hid ((Hb3.out _).trans (ho3.toBelow (Nat.le_refl _) (by simpa using hG2)))
      have hb17 : b < 17 := by omega
      have q8 : IntKind.i64.wrap ((b : Int) - 8) = (b : Int) - 8 := IntWalk.i64_in _ ⟨by omega, by omega⟩
      have hsz3 : w1.heap.size ≤ w3.heap.size ∧ G ≤ w3.heap.size := by
        have h2 := ho3.size
        simp at h2
        omega
      clear hs3 ho3 hz0 hz1 Hs3 Hrow3 Hb3 Hs Hrow Hb Hb2
      have Hl := Lib.hid (show (cx ls).length ≤ 1099511627776 by rw [cx_length, HLS.out]; omega)
      go_wp2_with (first | (with_reducible refine wpList_fop rfl _ _ _ _ _ rfl rfl .f32 _ _ rfl rfl ?_; intro ri m hri; have HIM := Lib.hid hri; clear hri) |
        (at_builtin; go_must (refine wpList_pushV (.complex .f32 0 0) 8 Hrow4.out infoC rfl rfl (by decide) rfl _ _ rfl Try.underlying25 Hl.out hsz3.1 rfl rfl rfl rfl rfl rfl ?_); intro v1 w4 hr1 hb5 hg5 ho5))
      have HN := Lib.hid (show DR (nc (r, ri)) k from drawn_DR (by omega) ha5 hb17 HRE.out HIM.out)
      have Hs5 := Lib.hid (SrcI.belowB Hs4.out hb5 (by omega) (fun p n c hz h => by have := HB.out hz p n c h; omega))
      go_roundw
      case rel =>
        refine ⟨k + 1, k3, ls ++ [(r, ri)], by omega, by go_num, by omega, by rw [← cx_push]; exact hr1, by rw [List.length_append, HLS.out]; rfl, ?_, Hs5.out, Hb4.out.trans (hb5.mono (by omega)), Nat.le_trans hsz3.1 hb5.size⟩
        intro i hi
        have hL := HLS.out
        by_cases hik : i < k
        · have : (ls ++ [(r, ri)]).getD i (0, 0) = ls.getD i (0, 0) := by simp only [List.getD]; rw [List.getElem?_append_left (by omega)]
          rw [this]; exact HD.out i hik
        · obtain rfl : i = k := by omega
          have : (ls ++ [(r, ri)]).getD i (0, 0) = (r, ri) := by simp only [List.getD]; rw [List.getElem?_append_right (by omega), hL]; simp
          rw [this]; exact HN.out
      case measure => simp [intOf]; omega
    · obtain rfl : k = n := by omega
      have Hr := Lib.hid (hrow.own.mono (show G ≤ w1.heap.size by omega))
      have Hb := Lib.hid hb
      clear hrow hb hs
      go_wp2_with fail
      refine bodyPost_ret (by simp [results, Try.results6, go_sem]; try rfl) rfl ?_
      exact ⟨_, ls, rfl, hls, hD, by rw [hG]; exact Hr.out, by rw [hG]; exact Hb.out⟩

end Go.Proofs.Ytalfkkagbajjcaa

/- Plain facts of the drawn roots: finite, their real parts rise, distances fit, none is below 0, that of a number to itself is 0. Conditions: roots as they are drawn. -/
namespace Go.Proofs.Ytalfkkagbajjcaa
set_option linter.unusedSimpArgs false
set_option linter.unusedVariables false
open Go

theorem write_num {k : FloatKind} {s : Bool} {m : Nat} {e : Int} (ht : (m : Rat) * p2 e < tK k) : ∃ M P, k.decode (k.encode (.number s m e)) = .number s M P := by
  obtain ⟨hsw, h4, hfb, hlp⟩ := format_facts k
  by_cases hm : m = 0
  · subst hm
    have hw : k.encode (.number s 0 e) = k.format.word s 0 := by show k.format.nearest s 0 e = _; unfold Ieee.Format.nearest; simp
    have hb0 : 0 < k.format.binade := Nat.two_pow_pos _
    have hir : 0 < k.format.infRung := by cases k <;> decide +kernel
    refine ⟨0, k.format.leastPlace, ?_⟩
    show k.format.read _ = _
    rw [hw, read_word_num k.format s hir hsw, if_pos hb0]
  · have hlog : (2 : Nat) ^ m.log2 ≤ m := Nat.log2_self_le hm
    have hlq : p2 ((m.log2 : Int) + e) ≤ (m : Rat) * p2 e := by
      rw [p2_add, p2_nat]
      exact Rat.mul_le_mul_of_nonneg_right (by exact_mod_cast hlog) (Rat.le_of_lt (p2_pos e))
    have hR := nearest_rounds k.format hsw h4 s m e hm (by
      rw [hfb, hlp]
      have h1 : (m.log2 : Int) + e < (match k with | .f32 => 127 | .f64 => 1023) := by
        cases k
        · exact p2_lt (b := 127) (by have ht' : (m : Rat) * p2 e < p2 127 := ht; generalize p2 127 = t at *; grind)
        · exact p2_lt (b := 1023) (by have ht' : (m : Rat) * p2 e < p2 1023 := ht; generalize p2 1023 = t at *; grind)
      cases k
      · have : ((2 ^ FloatKind.f32.format.exponentBits : Nat) : Int) = 256 := by decide
        rw [this]; simp only [bK, lK] at *; omega
      · have : ((2 ^ FloatKind.f64.format.exponentBits : Nat) : Int) = 2048 := by decide
        rw [this]; simp only [bK, lK] at *; omega)
    obtain ⟨M, P, c, last, hread, _⟩ := hR.ex
    exact ⟨M, P, hread⟩
/-- A number that is not below 0. -/
def Pos (k : FloatKind) (x : Nat) : Prop := ∃ M P, k.decode x = .number false M P
theorem Pos.fN {k : FloatKind} {x : Nat} (h : Pos k x) : fN k x = true := by obtain ⟨M, P, h⟩ := h; unfold Go.Proofs.Ytalfkkagbajjcaa.fN; rw [h]; rfl
theorem Pos.nonneg {k : FloatKind} {x : Nat} (h : Pos k x) : 0 ≤ vN k x := by
  obtain ⟨M, P, h⟩ := h
  unfold vN
  rw [h]
  show 0 ≤ sg false _
  exact Rat.mul_nonneg (by exact_mod_cast Nat.zero_le M) (Rat.le_of_lt (p2_pos P))
theorem pos_write {k : FloatKind} {m : Nat} {e : Int} (ht : (m : Rat) * p2 e < tK k) : Pos k (nrm k (k.encode (.number false m e))) := by
  obtain ⟨M, P, h⟩ := write_num (s := false) ht
  have hn : Go.Proofs.Ytalfkkagbajjcaa.fN k (k.encode (.number false m e)) = true := by unfold Go.Proofs.Ytalfkkagbajjcaa.fN; rw [h]; rfl
  rw [fN_nrm hn]
  exact ⟨M, P, h⟩
theorem mul_pos {x : Nat} (h : fN .f64 x = true) (ht : A (vN .f64 x * vN .f64 x) < p2 1023) : Pos .f64 (fop .mul .f64 x x) := by
  obtain ⟨s, m, i, hd⟩ := isNum_ex h
  have hf : fop .mul .f64 x x = nrm .f64 (FloatKind.f64.encode (.number (s ^^ s) (m * m) (i + i))) := by
    unfold fop floatBits Ieee.Format.mul
    dsimp only
    rw [show FloatKind.f64.format.read x = .number s m i from hd]
    rfl
  have hs : (s ^^ s) = false := by cases s <;> rfl
  rw [hf, hs]
  refine pos_write ?_
  have h1 : A (vN .f64 x) = (m : Rat) * p2 i := by unfold vN; rw [hd, A_val]
  rw [A_mul, h1] at ht
  show _ < p2 1023
  rw [p2_add, Rat.natCast_mul]
  generalize p2 1023 = t at *
  grind
theorem add_pos {x y : Nat} (hx : Pos .f64 x) (hy : Pos .f64 y) (ht : A (vN .f64 x + vN .f64 y) < p2 1023) : Pos .f64 (fop .add .f64 x y) := by
  obtain ⟨m, i, hx⟩ := hx
  obtain ⟨n, j, hy⟩ := hy
  have hf : fop .add .f64 x y = nrm .f64 (FloatKind.f64.encode (.number (if (Ieee.signed false m (i - min i j).toNat + Ieee.signed false n (j - min i j).toNat) = 0 then false && false else Ieee.signed false m (i - min i j).toNat + Ieee.signed false n (j - min i j).toNat < 0)
      (Ieee.signed false m (i - min i j).toNat + Ieee.signed false n (j - min i j).toNat).natAbs (min i j))) := by
    unfold fop floatBits Ieee.Format.add
    dsimp only
    rw [show FloatKind.f64.format.read x = .number false m i from hx, show FloatKind.f64.format.read y = .number false n j from hy]
    rfl
  have h0 : 0 ≤ Ieee.signed false m (i - min i j).toNat + Ieee.signed false n (j - min i j).toNat := Int.add_nonneg (by unfold Ieee.signed; exact Int.natCast_nonneg _) (by unfold Ieee.signed; exact Int.natCast_nonneg _)
  have hv : vN .f64 x + vN .f64 y = ((Ieee.signed false m (i - min i j).toNat + Ieee.signed false n (j - min i j).toNat : Int) : Rat) * p2 (min i j) := by
    unfold vN
    rw [hx, hy, Rat.intCast_add, ← signed_val false m i (min i j) (by omega), ← signed_val false n j (min i j) (by omega)]
    grind
  generalize Ieee.signed false m (i - min i j).toNat + Ieee.signed false n (j - min i j).toNat = tot at *
  have hb : (if tot = 0 then false && false else decide (tot < 0)) = false := by
    split
    · rfl
    · simp; omega
  rw [hf, hb]
  refine pos_write ?_
  rw [hv, A_intm _ (Rat.le_of_lt (p2_pos _))] at ht
  exact ht
/-- The root of a number that is not below 0. -/
theorem root_false {m : Nat} {i : Int} (hb : (m : Rat) * p2 i ≤ p2 90) : ∃ M P, Ieee.Datum.root 54 (.number false m i) = some (.number false M P) ∧ (M : Rat) * p2 P ≤ p2 60 := by
  unfold Ieee.Datum.root
  dsimp only
  by_cases hm : m = 0
  · rw [if_pos hm]
    refine ⟨m, i, rfl, ?_⟩
    rw [hm, show ((0 : Nat) : Rat) = 0 from rfl]
    have := p2_pos 60
    generalize p2 60 = t at *
    grind
  · rw [if_neg hm]
    simp only [Bool.false_eq_true, if_false]
    generalize hmore : 2 * 54 - m.log2 + ((i - ((2 * 54 - m.log2 : Nat) : Int)) % 2).toNat = more
    obtain ⟨E, hE⟩ : ∃ E : Int, i - (more : Int) = 2 * E := ⟨(i - (more : Int)) / 2, by omega⟩
    have hE2 : (i - (more : Int)) / 2 - 1 = E - 1 := by omega
    have hwl := rootFrom_le (m <<< more) ((m <<< more).log2 / 2 + 1) 0 (by simp)
    generalize Ieee.Datum.rootFrom (m <<< more) ((m <<< more).log2 / 2 + 1) 0 = wh at *
    rw [hE2]
    refine ⟨_, _, rfl, ?_⟩
    have hst : ((2 * wh + (wh * wh != m <<< more).toNat : Nat) : Rat) ≤ 2 * (wh : Rat) + 1 := by
      have : 2 * wh + (wh * wh != m <<< more).toNat ≤ 2 * wh + 1 := by
        have := Bool.toNat_le (wh * wh != m <<< more); omega
      have h2 : ((2 * wh + (wh * wh != m <<< more).toNat : Nat) : Rat) ≤ ((2 * wh + 1 : Nat) : Rat) := by exact_mod_cast this
      rw [Rat.natCast_add (2 * wh) 1, Rat.natCast_mul] at h2
      exact h2
    rw [Nat.shiftLeft_eq] at hwl
    have hwl2 : ((wh : Nat) : Rat) * (wh : Rat) ≤ (m : Rat) * p2 (more : Int) := by
      rw [p2_nat, ← Rat.natCast_mul, ← Rat.natCast_mul]; exact_mod_cast hwl
    have m1 : (1 : Rat) ≤ (m : Rat) := by exact_mod_cast Nat.pos_of_ne_zero hm
    have pE := p2_pos E
    have p2E : p2 E * p2 E = p2 (i - (more : Int)) := by rw [← p2_add]; congr 1; omega
    have pim : p2 (more : Int) * p2 (i - (more : Int)) = p2 i := by rw [← p2_add]; congr 1; omega
    have p90 : p2 90 = p2 45 * p2 45 := by rw [← p2_add]; rfl
    have w1 : (wh : Rat) * p2 E ≤ p2 45 := by
      refine sq_le_sq (Rat.le_of_lt (p2_pos 45)) ?_
      rw [← p90]
      have a1 := Rat.mul_le_mul_of_nonneg_right hwl2 (Rat.le_of_lt (p2_pos (i - (more : Int))))
      have a2 : (wh : Rat) * p2 E * ((wh : Rat) * p2 E) = (wh : Rat) * (wh : Rat) * p2 (i - (more : Int)) := by rw [← p2E]; grind
      rw [Rat.mul_assoc (m : Rat), pim] at a1
      rw [a2]
      exact Rat.le_trans a1 hb
    have w2 : p2 E ≤ p2 45 := by
      refine sq_le_sq (Rat.le_of_lt (p2_pos 45)) ?_
      rw [← p90, p2E]
      have a1 : 1 * p2 i ≤ (m : Rat) * p2 i := Rat.mul_le_mul_of_nonneg_right m1 (Rat.le_of_lt (p2_pos i))
      have a3 : p2 (i - (more : Int)) ≤ p2 i := p2_mono (by omega)
      rw [Rat.one_mul] at a1
      exact Rat.le_trans a3 (Rat.le_trans a1 hb)
    have w3 : p2 E = p2 (E - 1) + p2 (E - 1) := p2_dbl (by omega)
    have w4 := Rat.mul_le_mul_of_nonneg_right hst (Rat.le_of_lt (p2_pos (E - 1)))
    have w5 : p2 45 + p2 45 ≤ p2 60 := by decide +kernel
    have w6 := p2_pos (E - 1)
    rw [w3] at w1 w2
    generalize p2 (E - 1) = x1 at *
    generalize p2 45 = x2 at *
    generalize p2 60 = x3 at *
    generalize ((2 * wh + (wh * wh != m <<< more).toNat : Nat) : Rat) = x4 at *
    generalize (wh : Rat) = x5 at *
    clear hb hwl2 p2E pim p90 hst
    grind
theorem sqF_pos {y : Nat} (h : Pos .f64 y) (hb : vN .f64 y ≤ p2 90) : Pos .f64 (sqF y) ∧ Pos .f32 (nw (sqF y)) := by
  obtain ⟨m, i, hd⟩ := h
  have hv : vN .f64 y = (m : Rat) * p2 i := by unfold vN; rw [hd]; rfl
  rw [hv] at hb
  obtain ⟨M, P, hr, hM⟩ := root_false hb
  have hq : sqF y = nrm .f64 (FloatKind.f64.encode (.number false M P)) := by
    unfold sqF Ieee.Format.sqrt
    rw [show FloatKind.f64.format.read y = .number false m i from hd, show Ieee.Datum.root (FloatKind.f64.format.fractionBits + 2) (.number false m i) = some (.number false M P) from hr]
    rfl
  have h60 : p2 60 < p2 1023 := lt_of_p2 (Rat.le_refl (a := p2 60)) (by decide)
  have hp := pos_write (k := .f64) (m := M) (e := P) (show _ < p2 1023 by generalize p2 1023 = t at *; generalize p2 60 = u at *; grind)
  rw [← hq] at hp
  refine ⟨hp, ?_⟩
  obtain ⟨M2, P2, hd2⟩ := hp
  have hR := write_ok .f64 (.number false M P) rfl (by rw [A_val]; show _ < p2 1023; generalize p2 1023 = t at *; generalize p2 60 = u at *; grind)
  have hn : nrm .f64 (FloatKind.f64.encode (.number false M P)) = FloatKind.f64.encode (.number false M P) := fN_nrm hR.1
  have hval : vN .f64 (sqF y) = (M2 : Rat) * p2 P2 := by unfold vN; rw [hd2]; rfl
  have hsm : (M2 : Rat) * p2 P2 < p2 127 := by
    have a1 := hR.2.1
    rw [← hn, ← hq, hval, A_val] at a1
    have a2 := le_A ((M2 : Rat) * p2 P2 - valD (.number false M P))
    have a3 : valD (.number false M P) = (M : Rat) * p2 P := rfl
    rw [a3] at a1 a2
    have u0 : uK .f64 ≤ 1 := by decide +kernel
    have u2 : eK .f64 ≤ 1 := by decide +kernel
    have u3 := Rat.mul_le_mul_of_nonneg_right u0 (Rat.mul_nonneg (show (0 : Rat) ≤ (M : Rat) by exact_mod_cast Nat.zero_le M) (Rat.le_of_lt (p2_pos P)))
    have u4 : 2 * p2 60 + 1 < p2 127 := by decide +kernel
    generalize uK .f64 = a at *
    generalize eK .f64 = b at *
    generalize p2 60 = c at *
    generalize p2 127 = g at *
    clear h60 hR hn hval hq hd2 hr hv hb hd
    grind
  have hw : floatToFloatBits .f64 (sqF y) .f32 = some (FloatKind.f32.encode (.number false M2 P2)) := by
    unfold floatToFloatBits
    rw [if_neg (by decide), hd2]
    dsimp only
    obtain ⟨M3, P3, h3⟩ := write_num (k := .f32) (s := false) (m := M2) (e := P2) hsm
    rw [h3]; rfl
  rw [show nw (sqF y) = nrm .f32 (FloatKind.f32.encode (.number false M2 P2)) by unfold nw fcvt; rw [hw]; rfl]
  exact pos_write hsm
theorem longF_pos {d : C2} (hd : fC d) (hn : N (cv d) ≤ p2 44) : Pos .f32 (longF d) := by
  have a1 : A (vN .f32 d.1) ≤ N (cv d) := re_le_N (cv d)
  have a2 : A (vN .f32 d.2) ≤ N (cv d) := im_le_N (cv d)
  have m1 : p2 44 < p2 200 := lt_of_p2 (Rat.le_refl (a := p2 44)) (by decide)
  have m2 : p2 44 < p2 1023 := lt_of_p2 (Rat.le_refl (a := p2 44)) (by decide)
  obtain ⟨p1, q1⟩ := wd_ok hd.1 (by grind)
  obtain ⟨p2', q2⟩ := wd_ok hd.2 (by grind)
  have k1 : A (vN .f32 d.1 * vN .f32 d.1) ≤ p2 88 := by
    rw [A_mul]
    have := mul_le (Rat.le_trans a1 hn) (Rat.le_trans a1 hn) (A_nonneg _) (Rat.le_of_lt (p2_pos 44))
    rw [← p2_add] at this; exact this
  have k2 : A (vN .f32 d.2 * vN .f32 d.2) ≤ p2 88 := by
    rw [A_mul]
    have := mul_le (Rat.le_trans a2 hn) (Rat.le_trans a2 hn) (A_nonneg _) (Rat.le_of_lt (p2_pos 44))
    rw [← p2_add] at this; exact this
  have m3 : p2 88 < p2 1023 := lt_of_p2 (Rat.le_refl (a := p2 88)) (by decide)
  have P1 := mul_pos p1 (by rw [q1]; grind)
  have P2 := mul_pos p2' (by rw [q2]; grind)
  obtain ⟨_, e1'⟩ := prod_exact hd.1 hd.1 (by grind) (by grind)
  obtain ⟨_, e2'⟩ := prod_exact hd.2 hd.2 (by grind) (by grind)
  have m4 : p2 88 + p2 88 = p2 89 := p2_two 88
  have m5 : p2 89 < p2 1023 := lt_of_p2 (Rat.le_refl (a := p2 89)) (by decide)
  have P3 := add_pos P1 P2 (by rw [e1', e2']; have := A_add (vN .f32 d.1 * vN .f32 d.1) (vN .f32 d.2 * vN .f32 d.2); grind)
  have hw := powerF_ok hd (lt_of_p2 hn (by decide))
  refine (sqF_pos P3 ?_).2
  have hs := sqN_le (cv d)
  have hs2 := mul_le hn hn (N_nonneg _) (Rat.le_of_lt (p2_pos 44))
  rw [← p2_add] at hs2
  have hs3 : sqN (cv d) ≤ p2 88 := Rat.le_trans hs hs2
  have hs0 := sqN_nonneg (cv d)
  have g := hw.2
  rw [A_of_nonneg hs0] at g
  have g2 := le_A (vN .f64 (powerF d) - sqN (cv d))
  have u1' : p2 (-53) ≤ 1 := p2_small (by decide)
  have u2 : p2 (-1075) ≤ 1 := p2_small (by decide)
  have u3 := Rat.mul_le_mul_of_nonneg_right u1' hs0
  have u4 : p2 88 + (p2 88 + 1) ≤ p2 90 := by decide +kernel
  show vN .f64 (powerF d) ≤ p2 90
  generalize p2 88 = c at *
  generalize p2 90 = f at *
  generalize p2 (-53) = h at *
  generalize p2 (-1075) = l at *
  clear m1 m2 m3 m4 m5 P1 P2 P3 e1' e2' hw p1 p2' q1 q2 k1 k2
  grind
theorem sub_self {x : Nat} (h : fN .f32 x = true) : fop .sub .f32 x x = 0 := by
  obtain ⟨s, m, i, hd⟩ := isNum_ex h
  unfold fop floatBits Ieee.Format.sub
  dsimp only
  rw [show FloatKind.f32.format.read x = .number s m i from hd]
  have e : (Ieee.Datum.number s m i).sum (Ieee.Datum.number s m i).opposite = some (.number false 0 i) := by
    show some _ = some _
    congr 1
    have h0 : Ieee.signed s m (i - min i i).toNat + Ieee.signed (!s) m (i - min i i).toNat = 0 := by unfold Ieee.signed; cases s <;> simp <;> omega
    rw [h0, Int.min_self]
    cases s <;> rfl
  rw [e]
  show nrm .f32 (FloatKind.f32.format.nearest false 0 i) = 0
  unfold Ieee.Format.nearest
  rw [if_pos rfl]
  decide +kernel
theorem long_zero : longF (0, 0) = 0 := by decide +kernel

/-- How two numbers stand to each other, by their values. -/
theorem order_num {k : FloatKind} {x y : Nat} (hx : fN k x = true) (hy : fN k y = true) : ∃ (a b : Int) (base : Int), vN k x = (a : Rat) * p2 base ∧ vN k y = (b : Rat) * p2 base ∧ k.format.order x y = some (compare a b) := by
  obtain ⟨s, m, i, h1⟩ := isNum_ex hx
  obtain ⟨t, n, j, h2⟩ := isNum_ex hy
  refine ⟨Ieee.signed s m (i - min i j).toNat, Ieee.signed t n (j - min i j).toNat, min i j, ?_, ?_, ?_⟩
  · unfold vN; rw [h1]; exact (signed_val s m i (min i j) (by omega)).symm
  · unfold vN; rw [h2]; exact (signed_val t n j (min i j) (by omega)).symm
  · unfold Ieee.Format.order
    rw [show k.format.read x = .number s m i from h1, show k.format.read y = .number t n j from h2]
    rfl
theorem lss_false {k : FloatKind} {x y : Nat} (hx : fN k x = true) (hy : fN k y = true) (h : vN k y ≤ vN k x) : fcmp .lss k x y = false := by
  obtain ⟨a, b, e, h1, h2, h3⟩ := order_num hx hy
  unfold fcmp
  rw [h3]
  rw [h1, h2] at h
  have h4 := lcancel_le (p2_pos e) h
  have h5 : b ≤ a := by exact_mod_cast h4
  have : compare a b ≠ .lt := by
    intro hc; have := Int.compare_eq_lt.1 hc; omega
  cases hcmp : compare a b <;> simp_all
theorem gtr_true {k : FloatKind} {x y : Nat} (hx : fN k x = true) (hy : fN k y = true) (h : vN k y < vN k x) : fcmp .gtr k x y = true ∧ fcmp .eql k x y = false := by
  obtain ⟨a, b, e, h1, h2, h3⟩ := order_num hx hy
  unfold fcmp
  rw [h3]
  rw [h1, h2] at h
  have h5 : b < a := by
    rcases Int.lt_or_le b a with hh | hh
    · exact hh
    · have : (a : Rat) ≤ (b : Rat) := by exact_mod_cast hh
      have := Rat.mul_le_mul_of_nonneg_right this (Rat.le_of_lt (p2_pos e))
      grind
  rw [Int.compare_eq_gt.2 h5]
  exact ⟨rfl, rfl⟩
end Go.Proofs.Ytalfkkagbajjcaa

/- Facts of the drawn roots in a list; a byte's number; two lists of integers that are the same. Conditions: 1 to 6 roots as they are drawn; lists of at most 2^40. -/
namespace Go.Proofs.Ytalfkkagbajjcaa
set_option linter.unusedSimpArgs false
set_option linter.unusedVariables false
open Go Go.RowKit

/-- A list of drawn roots. -/
structure DL (ls : List C2) : Prop where
  h1 : 1 ≤ ls.length
  h6 : ls.length ≤ 6
  d : ∀ k, k < ls.length → DR (nc (ls.getD k (0, 0))) k
theorem DL.fin {ls : List C2} (h : DL ls) {k : Nat} (hk : k < ls.length) : fC (nc (ls.getD k (0, 0))) ∧ N (cv (nc (ls.getD k (0, 0)))) ≤ p2 41 := (h.d k hk).small (by have := h.h6; omega)
theorem DL.allFin {ls : List C2} (h : DL ls) : allFinC ls = true := (allFinC_true_iff ls).2 fun i hi => by
  have := (fC_iff _).1 (h.fin hi).1
  rwa [show ls.getD i (0, 0) = ls[i] by simp [List.getD, hi]] at this
theorem DR.re {w : C2} {k : Nat} (h : DR w k) : ∃ x : Int, 8 * (k : Int) - 12 ≤ x ∧ x ≤ 8 * (k : Int) - 8 ∧ vN .f32 w.1 = (x : Rat) * p2 (-3) := by
  obtain ⟨j, x, y, hj, hx, hy, g⟩ := h
  rw [rootX_val] at hx
  exact ⟨x, by omega, by omega, congrArg Q2.re g.2⟩
theorem rises_pure {a b : Rat} {x y : Int} (ha : a = (x : Rat) * p2 (-3)) (hb : b = (y : Rat) * p2 (-3)) (h : x < y) : a < b := by
  have h2 : (x : Rat) < (y : Rat) := by exact_mod_cast h
  have := Rat.mul_lt_mul_of_pos_right h2 (p2_pos (-3))
  rw [ha, hb]; exact this
theorem DL.lt {ls : List C2} (h : DL ls) {i : Nat} (hi : i + 1 < ls.length) : vN .f32 (nc (ls.getD i (0, 0))).1 < vN .f32 (nc (ls.getD (i + 1) (0, 0))).1 := by
  obtain ⟨x, _, a2, a3⟩ := (h.d i (by omega)).re
  obtain ⟨y, b1, _, b3⟩ := (h.d (i + 1) hi).re
  exact rises_pure a3 b3 (by omega)
theorem DL.up {ls : List C2} (h : DL ls) {i : Nat} (hi : i + 1 < ls.length) : fcmp .lss .f32 (nc (ls.getD (i + 1) (0, 0))).1 (nc (ls.getD i (0, 0))).1 = false ∧ fcmp .gtr .f32 (nc (ls.getD (i + 1) (0, 0))).1 (nc (ls.getD i (0, 0))).1 = true ∧ fcmp .eql .f32 (nc (ls.getD (i + 1) (0, 0))).1 (nc (ls.getD i (0, 0))).1 = false := by
  have hl := h.lt hi
  have f1 := (h.fin (k := i) (by omega)).1.1
  have f2 := (h.fin hi).1.1
  obtain ⟨g1, g2⟩ := gtr_true f2 f1 hl
  exact ⟨lss_false f2 f1 (Rat.le_of_lt hl), g1, g2⟩
theorem DL.rises {ls : List C2} (h : DL ls) : Rises (ls.map nc) := by
  intro i hi
  rw [List.length_map] at hi
  rw [getD_nc, getD_nc]
  exact ⟨(h.up hi).1, (h.up hi).2.1⟩
theorem DL.fit {ls : List C2} (h : DL ls) {i k : Nat} (hi : i < ls.length) (hk : k < ls.length) : fit1 (sqF (powerF (subC (nc (ls.getD i (0, 0))) (nc (ls.getD k (0, 0)))))) :=
  dist_fit (h.fin hi).1 (h.fin hk).1 (h.fin hi).2 (h.fin hk).2
theorem DL.zero {ls : List C2} (h : DL ls) {i : Nat} (hi : i < ls.length) : longF (subC (nc (ls.getD i (0, 0))) (nc (ls.getD i (0, 0)))) = 0 := by
  have hf := (h.fin hi).1
  rw [show subC (nc (ls.getD i (0, 0))) (nc (ls.getD i (0, 0))) = (0, 0) from Prod.ext (sub_self hf.1) (sub_self hf.2)]
  exact long_zero
theorem dist_N {a x : C2} (ha : fC a) (hx : fC x) (na : N (cv a) ≤ p2 41) (nx : N (cv x) ≤ p2 41) : fC (subC a x) ∧ N (cv (subC a x)) ≤ p2 44 := by
  have h1 := N_sub (cv a) (cv x)
  have h2 : p2 41 + p2 41 = p2 42 := p2_two 41
  have h3 : N (cv a - cv x) ≤ p2 42 := by grind
  have hn := subC_near ha hx (lt_of_p2 h3 (by decide))
  refine ⟨hn.1, ?_⟩
  have g := hn.2
  have t1 := N_tri (cv (subC a x)) (cv a - cv x)
  have u14 : u1 ≤ 1 := by decide +kernel
  have e14 : e1 ≤ 1 := by decide +kernel
  have u5 := Rat.mul_le_mul_of_nonneg_right u14 (N_nonneg (cv a - cv x))
  have h4 : p2 42 + (p2 42 + 1) ≤ p2 44 := by decide +kernel
  generalize u1 = u at *
  generalize e1 = e at *
  generalize p2 42 = c at *
  generalize p2 44 = d at *
  clear h1 h2 na nx hn
  grind
theorem vN0 : vN .f32 0 = 0 := by decide +kernel
theorem DL.pos {ls : List C2} (h : DL ls) {i k : Nat} (hi : i < ls.length) (hk : k < ls.length) : fcmp .lss .f32 (longF (subC (nc (ls.getD i (0, 0))) (nc (ls.getD k (0, 0))))) 0 = false := by
  obtain ⟨a, b⟩ := dist_N (h.fin hi).1 (h.fin hk).1 (h.fin hi).2 (h.fin hk).2
  have hp := longF_pos a b
  exact lss_false hp.fN (by decide +kernel) (by rw [vN0]; exact hp.nonneg)
/-- A number is itself. -/
theorem eql_self {x : Nat} (hx : fN .f32 x = true) : fcmp .eql .f32 x x = true := by
  obtain ⟨a, b, e, h1, h2, h3⟩ := order_num hx hx
  unfold fcmp
  rw [h3]
  have : a = b := by
    have h4 : (a : Rat) * p2 e ≤ (b : Rat) * p2 e := by rw [← h1, ← h2]; exact Rat.le_refl
    have h5 : (b : Rat) * p2 e ≤ (a : Rat) * p2 e := by rw [← h1, ← h2]; exact Rat.le_refl
    have h6 : a ≤ b := by exact_mod_cast lcancel_le (p2_pos e) h4
    have h7 : b ≤ a := by exact_mod_cast lcancel_le (p2_pos e) h5
    omega
  subst this
  have : compare a a = .eq := by simp
  rw [this]
  rfl
theorem DL.same {ls : List C2} (h : DL ls) {i : Nat} (hi : i < ls.length) : fcmp .eql .f32 (nc (ls.getD i (0, 0))).1 (nc (ls.getD i (0, 0))).1 = true ∧ fcmp .eql .f32 (nc (ls.getD i (0, 0))).2 (nc (ls.getD i (0, 0))).2 = true :=
  ⟨eql_self (h.fin hi).1.1, eql_self (h.fin hi).1.2⟩
theorem DL.take {ls : List C2} (h : DL ls) {m : Nat} (h1 : 1 ≤ m) (hm : m ≤ ls.length) : DL (ls.take m) := by
  have hl : (ls.take m).length = m := by rw [List.length_take]; omega
  refine ⟨by omega, by have := h.h6; omega, fun k hk => ?_⟩
  rw [hl] at hk
  rw [show (ls.take m).getD k (0, 0) = ls.getD k (0, 0) by simp [List.getD, List.getElem?_take, hk]]
  exact h.d k (by omega)
/-- The polynomial of the first roots. -/
theorem DL.poly {ls : List C2} (h : DL ls) (h3 : ls.length ≤ 3) : SafePoly (ls.map nc) ls.length := by
  have h1 := h.h1
  have hm : (ls.map nc).length = ls.length := List.length_map _
  have d : ∀ k, k < ls.length → DR ((ls.map nc).getD k (0, 0)) k := fun k hk => by rw [getD_nc]; exact h.d k hk
  rcases (by omega : ls.length = 1 ∨ ls.length = 2 ∨ ls.length = 3) with e | e | e
  · rw [e]; exact safe1 (by omega) (d 0 (by omega))
  · rw [e]; exact safe2 (by omega) (d 0 (by omega)) (d 1 (by omega))
  · rw [e]; exact safe3 (by omega) (d 0 (by omega)) (d 1 (by omega)) (d 2 (by omega))
/-- The distance that is near. -/
def nearW (t : Nat) : Nat := fop .quo .f32 (nrm .f32 (floatOfInt .f32 (t : Int))) (nrm .f32 1090519040)
theorem near_ok : ∀ t, t < 17 → finF (nearW t) = true ∧ fcmp .lss .f32 (nearW t) (nrm .f32 0) = false := by decide +kernel
theorem box_ok : boxF (nc loW) (nc hiW) = true := by decide +kernel
theorem corner : ptF (nc loW) (subC (nc hiW) (nc loW)) 0 0 = nc loW := by decide +kernel
theorem lo_fin : finC (nc loW) = true := by decide +kernel
/-- The first number of a grid is that of its corner. -/
theorem grid_zero (F L : List C2) : (gridF F L (nc loW) (subC (nc hiW) (nc loW))).getD 0 0 = if (basinF F L (nc loW) 6).2 = true then ((basinF F L (nc loW) 6).1 : Int) else -1 := by
  have e : gridG F L (nc loW) (subC (nc hiW) (nc loW)) 0 = if (basinF F L (nc loW) 6).2 = true then ((basinF F L (nc loW) 6).1 : Int) else -1 := by
    unfold gridG
    rw [show (0 : Nat) % 4 = 0 from rfl, show (0 : Nat) / 4 = 0 from rfl, corner]
  rw [← e]; rfl
theorem complex_neqF (t : TypeId) (a b c d : Nat) : binOp .neq t (.complex .f32 a b) (.complex .f32 c d) = pure (.bool (!(fcmp .eql .f32 (nrm .f32 a) (nrm .f32 c) && fcmp .eql .f32 (nrm .f32 b) (nrm .f32 d)))) := by
  rw [fcmp_nrm, fcmp_nrm]
  simp [binOp, Op.complexOp, Op.Complex.cmp, Op.floatCmp, asBool, fcmp]

set_option maxRecDepth 100000 in
set_option maxHeartbeats 400000 in
theorem b10At_one (va : Value) (i : Int) (w : World) : Calls Try.prog 5 #[va, .int .i64 i, .int .i64 1] w fun e w' => e = .returned (.int .i64 0) ∧ w = w' := by
  go_enter Try.func5, Try.ntmps5
  go_wp2
  go_ret
  exact ⟨rfl, rfl⟩
theorem b10At_any (va : Value) (a : List Int) (i n : Int) (w : World) (ha : RdB w va a) (h0 : 0 ≤ i) (h1 : i ≤ 1000000) (h2 : 1 ≤ n) (h3 : n ≤ 1000000) : Calls Try.prog 5 #[va, .int .i64 i, .int .i64 n] w fun e w' => ∃ z, e = .returned (.int .i64 z) ∧ 0 ≤ z ∧ z < n ∧ w = w' := by
  by_cases h : n = 1
  · subst h
    refine (b10At_one va i w).mono ?_
    rintro e w' ⟨rfl, rfl⟩
    exact ⟨0, rfl, by omega, by omega, rfl⟩
  · exact b10At_law va a i n w ha h0 h1 (by omega) h3

set_option maxRecDepth 100000 in
set_option maxHeartbeats 1600000 in
theorem b10Ints_same (va vb : Value) (xs : List Int) (w : World) (ha : RdV w va (gi xs)) (hb : RdV w vb (gi xs)) (hnx : xs ≠ []) (hlx : xs.length ≤ 1000) : Calls Try.prog 16 #[va, vb] w fun e w' => e = .returned (.bool true) ∧ Below w.heap.size w w' := by
  have hng : gi xs ≠ [] := by rw [← List.length_pos_iff, gi_length]; exact List.length_pos_iff.2 hnx
  obtain ⟨b, off, cap, rfl, _, _, hc⟩ := ha.open hng
  obtain ⟨b', off', cap', rfl, _, _, hc'⟩ := hb.open hng
  rw [gi_length] at hc hc' ⊢
  have Hc := Lib.hid (show ∀ i, i < xs.length → w.cell? ⟨b, off + i, none⟩ = some (.int .i64 (xs.getD i 0)) from fun i hi => (hc i hi).trans (gi_get hi))
  have Hc' := Lib.hid (show ∀ i, i < xs.length → w.cell? ⟨b', off' + i, none⟩ = some (.int .i64 (xs.getD i 0)) from fun i hi => (hc' i hi).trans (gi_get hi))
  clear hc hc' ha hb hnx hng
  go_enter Try.func16, Try.ntmps16
  go_wp2
  go_loopw [13] (fun i wr => ∃ k m : Nat, k ≤ xs.length ∧ i = .int .i64 k ∧ wr = w.drewN m) (fun i _ => xs.length - (intOf i).toNat)
  case atStart => exact ⟨0, 0, Nat.zero_le _, rfl, rfl⟩
  case round =>
    obtain ⟨k, m, hk, rfl, rfl⟩ := hrel
    by_cases hlt : k < xs.length
    · have hlti : (k : Int) < (xs.length : Int) := by omega
      have c1 := Hc.out k hlt
      have c2 := Hc'.out k hlt
      obtain ⟨z, hz2⟩ : ∃ z, z = xs.getD k 0 := ⟨_, rfl⟩
      rw [← hz2] at c1 c2
      clear hz2
      go_wp2_with fail
      go_quiet (fail)
      go_wp2
      go_roundw
      case rel => exact ⟨k + 1, _, by omega, by go_num, rfl⟩
      case measure => simp [intOf]; omega
    · obtain rfl : k = xs.length := by omega
      go_wp2
      go_ret
      exact ⟨rfl, drewN_below _ _⟩
end Go.Proofs.Ytalfkkagbajjcaa
