/- The turns around a box, of the program. Conditions: nothing is too great and no value is 0 around the box. -/
import Derived.Test.YtklonahkacikbaaU14
namespace Go.Proofs.Ytklonahkacikbaa
open Go Go.RowKit
set_option linter.unusedSimpArgs false
set_option linter.unusedVariables false

set_option maxRecDepth 100000 in
set_option maxHeartbeats 8000000 in
theorem turns_impl (v : Value) (rs : List C2) (lo hi : C2) (st : Nat) (w : World) (hv : RdV w v (cx rs)) (h1 : 1 ≤ rs.length) (h2 : rs.length ≤ 17) (H : BoxOk (rs.map nc) (nc lo) (nc hi) st) :
    Calls Try.prog 9 #[.agg #[v], .complex .f32 lo.1 lo.2, .complex .f32 hi.1 hi.2, .int .i64 (st : Int)] w (RetFB (turnS (rs.map nc) (nc lo) (nc hi) st (4 * st), true) w) := by
  obtain ⟨ao, cap, rfl, _⟩ := hv.shape
  rw [cx_length] at hv ⊢
  have s4 := H.s4
  have s60 := H.s60
  have I1 := Lib.hid (show inB 4 (st : Int) 64 = true by simp [inB]; omega)
  have Xp := Lib.hid (World.cell?_alloc_new w #[.slice ao rs.length cap] 28 0 : (w.alloc (.cells #[.slice ao rs.length cap] 28)).cell? ⟨w.heap.size, 0, none⟩ = some (.slice ao rs.length cap))
  have Hv := Lib.hid (hv.alloc (.cells #[.slice ao rs.length cap] 28))
  have B0 := Lib.hid (show Below w.heap.size w (w.alloc (.cells #[.slice ao rs.length cap] 28)) from (Below.refl _ _).alloc (Nat.le_refl _) _)
  have RI := Lib.hid (fun w1 hv => rooted_impl (.slice ao rs.length cap) rs w1 hv h1 h2)
  rw [H.root] at RI
  have BX := Lib.hid (fun w1 => box_impl lo hi H.box w1)
  have PA := Lib.hid (fun w1 z hv Hs => polyAt_impl (.slice ao rs.length cap) rs z w1 hv h1 h2 Hs)
  have HH := Lib.hid H
  clear hv h1 h2 H
  go_enter Try.func9, Try.ntmps9
  go_wp2_with fail
  refine (RI.out _ Hv.out).mono ?_
  rintro e w1 ⟨rfl, hb1⟩
  replace Xp := Lib.hid ((hb1.cell (p := ⟨w.heap.size, 0, none⟩) (World.block_lt_of_cell? _ _ Xp.out)).trans Xp.out)
  replace Hv := Lib.hid (Hv.out.below hb1)
  replace B0 := Lib.hid (B0.out.trans (hb1.mono B0.out.size))
  clear hb1
  go_wp2_with fail
  refine (BX.out _).mono ?_
  rintro e W ⟨rfl, hb3⟩
  replace Xp := Lib.hid ((hb3.cell (p := ⟨w.heap.size, 0, none⟩) (World.block_lt_of_cell? _ _ Xp.out)).trans Xp.out)
  replace Hv := Lib.hid (Hv.out.below hb3)
  replace B0 := Lib.hid (B0.out.trans (hb3.mono B0.out.size))
  clear hb3
  have lp : w.heap.size < W.heap.size := World.block_lt_of_cell? _ _ Xp.out
  clear RI BX
  go_upto_region 3 with (go_at_call 26; ((with_reducible refine (within_impl _ _ _ _).mono ?_); rintro e w8 ⟨rfl, rfl⟩; rw [I1.out]))
  go_upto_region 4 with fail
  have b2 : Below W.heap.size W (W.alloc (.cells #[.complex .f32 lo.1 lo.2, .complex .f32 hi.1 lo.2, .complex .f32 hi.1 hi.2, .complex .f32 lo.1 hi.2, .complex .f32 lo.1 lo.2] 31)) := by (repeat' (first | (with_reducible exact Below.refl _ _) | (with_reducible assumption) | (with_reducible refine Below.alloc ?_ ?_ _) | (with_reducible refine Below.setCell ?_ ?_ _) | (with_reducible refine Below.drew ?_) | (with_reducible refine Below.via (by assumption) ?_ ?_) | go_size))
  have C2c := Lib.hid (show ∀ s, s ≤ 4 → (W.alloc (.cells #[.complex .f32 lo.1 lo.2, .complex .f32 hi.1 lo.2, .complex .f32 hi.1 hi.2, .complex .f32 lo.1 hi.2, .complex .f32 lo.1 lo.2] 31)).cell? ⟨W.heap.size, s, none⟩ = some (.complex .f32 (corner lo hi s).1 (corner lo hi s).2) from fun s hs => by
    rcases (by omega : s = 0 ∨ s = 1 ∨ s = 2 ∨ s = 3 ∨ s = 4) with rfl | rfl | rfl | rfl | rfl <;> (exact (World.cell?_alloc_new W _ 31 _ : _)))
  have z2 : (W.alloc (.cells #[.complex .f32 lo.1 lo.2, .complex .f32 hi.1 lo.2, .complex .f32 hi.1 hi.2, .complex .f32 lo.1 hi.2, .complex .f32 lo.1 lo.2] 31)).heap.size = W.heap.size + 1 := by simp
  generalize (W.alloc (.cells #[.complex .f32 lo.1 lo.2, .complex .f32 hi.1 lo.2, .complex .f32 hi.1 hi.2, .complex .f32 lo.1 hi.2, .complex .f32 lo.1 lo.2] 31)) = W2 at *
  have Hv2 := Lib.hid (Hv.out.below b2)
  have Xp2 := Lib.hid ((b2.cell (p := ⟨w.heap.size, 0, none⟩) lp).trans Xp.out)
  have B2 := Lib.hid (B0.out.trans (b2.mono B0.out.size))
  have l2 : w.heap.size < W2.heap.size := by omega
  have l3 : W.heap.size < W2.heap.size := by omega
  clear Hv Xp B0 b2 z2
  go_wp2_with fail
  go_loopw [11, 49] (fun ov iv wr => ∃ (s : Nat), s ≤ 4 ∧ iv = .int .i64 (s : Int) ∧ RowV 31 wr W2.heap.size ov (cx ((List.range (st * s)).map (bvs (rs.map nc) (nc lo) (nc hi) st))) ∧ Below W2.heap.size W2 wr) (fun _ iv _ => 4 - (intOf iv).toNat)
  case atStart => exact ⟨0, by omega, rfl, by first | exact row_nilS rfl (Nat.le_refl _) _ | exact row_nil (Nat.le_refl _) _, by (repeat' (first | (with_reducible exact Below.refl _ _) | (with_reducible assumption) | (with_reducible refine Below.alloc ?_ ?_ _) | (with_reducible refine Below.setCell ?_ ?_ _) | (with_reducible refine Below.drew ?_) | (with_reducible refine Below.via (by assumption) ?_ ?_) | go_size))⟩
  case round =>
    obtain ⟨s, hs4, rfl, hrow, hbel⟩ := hrel
    by_cases hlt : s < 4
    · have j1 : (s : Int) < 4 := by omega
      have cs0 := (hbel.cell (p := ⟨W.heap.size, s, none⟩) l3).trans (C2c.out s (by omega))
      have cs1 := (hbel.cell (p := ⟨W.heap.size, s + 1, none⟩) l3).trans (C2c.out (s + 1) (by omega))
      have k0 : (0 : Int) ≤ (s : Int) := by omega
      have k5 : (s : Int) < 5 := by omega
      have k6 : (s : Int) + 1 < 5 := by omega
      have k7 : (0 : Int) ≤ (s : Int) + 1 := by omega
      have ks : IntKind.i64.wrap ((s : Int) + 1) = (s : Int) + 1 := IntWalk.i64_in _ ⟨by omega, by omega⟩
      have Hrow := Lib.hid hrow
      have Hbel := Lib.hid hbel
      clear hrow hbel
      go_upto_region 8 with fail
      go_region_held3 (fun w' => w'.cell? ⟨W.heap.size, s, none⟩ = some (.complex .f32 (corner lo hi s).1 (corner lo hi s).2) ∧ w'.cell? ⟨W.heap.size, s + 1, none⟩ = some (.complex .f32 (corner lo hi (s + 1)).1 (corner lo hi (s + 1)).2)) (first | assumption | (refine ⟨?_, ?_⟩ <;> assumption)) (first | (go_at_call 27; ((with_reducible refine (minus_impl (corner lo hi (s + 1)) (corner lo hi s) _).mono ?_); rintro e w' ⟨d1, d2, m5, rfl, hd1, hd2, rfl⟩)))
      have HD := Lib.hid (show nc (d1, d2) = sideF (nc lo) (nc hi) s from (show nc (d1, d2) = _ from Prod.ext hd1 hd2).trans (by rw [corner_nc, corner_nc]; rfl))
      have hbx : Below W2.heap.size W2 (wr.drewN (1 + m5)) := below_drewN Hbel.out _
      have hrx := Hrow.out.below (below_drewN (Below.refl wr.heap.size wr) (1 + m5))
      clear hd1 hd2 cs0 cs1 k0 k5 k6 k7 ks Hrow Hbel
      generalize (wr.drewN (1 + m5)) = wy at *
      have hsy := hbx.size
      have HC := Lib.hid (corner_nc lo hi s)
      generalize corner lo hi s = cr at *
      have FR := Lib.hid (show st * s + 0 = st * s from rfl)
      go_wp2_with fail
      go_loopw [11, 67] (fun ov iv wi => ∃ (k : Nat), k ≤ st ∧ iv = .int .i64 (k : Int) ∧ RowV 31 wi W2.heap.size ov (cx ((List.range (st * s + k)).map (bvs (rs.map nc) (nc lo) (nc hi) st))) ∧ Below W2.heap.size W2 wi) (fun _ iv _ => st - (intOf iv).toNat)
      case atStart => exact ⟨0, by omega, rfl, hrx, hbx⟩
      case round =>
        obtain ⟨k, hkst, rfl, hrow, hbel⟩ := hrel
        have hsi := hbel.size
        by_cases hk : k < st
        · have j2 : (k : Int) < (st : Int) := by omega
          have xp := (hbel.cell (p := ⟨w.heap.size, 0, none⟩) l2).trans Xp2.out
          have AT := Lib.hid (HH.out.at hlt hk)
          have PT := Lib.hid (HH.out.pt s k hlt hk)
          have KEY : ∀ w1 x y, nc (x, y) = bpt (nc lo) (nc hi) st s k → Below wr.heap.size wr w1 →
              Calls Try.prog 28 #[.agg #[.slice ao rs.length cap], .complex .f32 x y] w1 (RetXB (nestedF (rs.map nc) (bpt (nc lo) (nc hi) st s k), true) w1) := by
            intro w1 x y e hb
            have := PA.out w1 (x, y) ((Hv2.out.below hbel).below hb) (Lib.hid (fun _ _ => by rw [e]; exact PT.out.2.1))
            rw [e, AT.out] at this
            exact this
          have Hkey := Lib.hid KEY
          have HV := Lib.hid (bvs_at (rs.map nc) (nc lo) (nc hi) hlt hk)
          have Hrow := Lib.hid hrow
          have Hbel := Lib.hid hbel
          clear KEY hrow hbel hkst hrx
          go_upto_region 12 with fail
          refine wp_region_held_drew (S := fun w' => w'.cell? ⟨w.heap.size, 0, none⟩ = some (.slice ao rs.length cap)) (by kernel_rfl) (by exact xp) (fun hHeld => ?_)
          refine wpAnyH_take (i := 0) (v := ?_) rfl (by kernel_rfl) (by kernel_rfl) (by kernel_rfl) (fun _ _ _ h => h) (Or.inl ⟨by rfl, ?_⟩) (by assumption) ?_
          rotate_left 1
          (intro w hSw; (try dsimp only at hSw); go_simp; (try with_reducible rfl))
          (try simp only [List.getElem_toArray, List.getElem_cons_succ, List.getElem_cons_zero, Act.put, List.setIfInBounds_toArray, List.set_cons_zero, List.set_cons_succ])
          refine wpAnyH_take (i := 1) (v := ?_) rfl (by kernel_rfl) (by kernel_rfl) (by kernel_rfl) (fun _ _ _ h => h) (Or.inl ⟨by rfl, ?_⟩) (by assumption) ?_
          rotate_left 1
          (intro w hSw; (try dsimp only at hSw); go_simp; (try with_reducible rfl))
          (try simp only [List.getElem_toArray, List.getElem_cons_succ, List.getElem_cons_zero, Act.put, List.setIfInBounds_toArray, List.set_cons_zero, List.set_cons_succ])
          refine wpAnyH_take (i := 2) (v := ?_) rfl (by kernel_rfl) (by kernel_rfl) (by kernel_rfl) (fun _ _ _ h => h) (Or.inl ⟨by rfl, ?_⟩) (by assumption) ?_
          rotate_left 1
          (intro w hSw; (try dsimp only at hSw); go_simp; (try with_reducible rfl))
          (try simp only [List.getElem_toArray, List.getElem_cons_succ, List.getElem_cons_zero, Act.put, List.setIfInBounds_toArray, List.set_cons_zero, List.set_cons_succ])
          refine wpAnyH_take (i := 3) (v := ?_) rfl (by kernel_rfl) (by kernel_rfl) (by kernel_rfl) (fun _ _ _ h => h) (Or.inl ⟨by rfl, ?_⟩) (by assumption) ?_
          rotate_left 1
          (intro w hSw; (try dsimp only at hSw); go_simp; (try with_reducible rfl))
          (try simp only [List.getElem_toArray, List.getElem_cons_succ, List.getElem_cons_zero, Act.put, List.setIfInBounds_toArray, List.set_cons_zero, List.set_cons_succ])
          refine wpAnyH_take (i := 4) (v := ?_) rfl (by kernel_rfl) (by kernel_rfl) (by kernel_rfl) (fun _ _ _ h => h) (Or.inl ⟨by rfl, ?_⟩) (by assumption) ?_
          rotate_left 1
          (intro w hSw; (try dsimp only at hSw); go_simp; (try with_reducible rfl))
          (try simp only [List.getElem_toArray, List.getElem_cons_succ, List.getElem_cons_zero, Act.put, List.setIfInBounds_toArray, List.set_cons_zero, List.set_cons_succ])
          refine wpAnyH_take (i := 5) (v := ?_) rfl (by kernel_rfl) (by kernel_rfl) (by kernel_rfl) (fun _ _ _ h => h) (Or.inl ⟨by rfl, ?_⟩) (by assumption) ?_
          rotate_left 1
          (intro w hSw; (try dsimp only at hSw); go_simp; (try with_reducible rfl))
          (try simp only [List.getElem_toArray, List.getElem_cons_succ, List.getElem_cons_zero, Act.put, List.setIfInBounds_toArray, List.set_cons_zero, List.set_cons_succ])
          refine wpAnyH_take (i := 6) (v := ?_) rfl (by kernel_rfl) (by kernel_rfl) (by kernel_rfl) (fun _ _ _ h => h) (Or.inl ⟨by rfl, ?_⟩) (by assumption) ?_
          rotate_left 1
          (intro w hSw; (try dsimp only at hSw); go_simp; (try with_reducible rfl))
          (try simp only [List.getElem_toArray, List.getElem_cons_succ, List.getElem_cons_zero, Act.put, List.setIfInBounds_toArray, List.set_cons_zero, List.set_cons_succ])
          refine wpAnyH_ready (rs := [7]) (by kernel_rfl) (by simp) ?_
          refine AllReadyH.cons rfl (fun K7 hK7 => ?_) ?_
          · go_simp
            (first | (with_reducible refine upon_fop .quo rfl _ .f32 _ _ ?_) | (with_reducible refine wpList_fop rfl .quo _ _ _ _ rfl rfl .f32 _ _ rfl rfl ?_)); intro r mr hr; have HR := Lib.hid (show nrm .f32 r = fracF k st from hr); clear hr
            (try go_wp2_with fail)
            refine hK7.out _ _ ?_ (fun hHeld7 => ?_)
            · first | assumption | exact xp | exact (Below.cell (B := wr.heap.size) (p := ⟨w.heap.size, 0, none⟩) (by assumption) (by simp only; omega)).trans xp
            clear hK7 K7
            (try simp only [List.getElem_toArray, List.getElem_cons_succ, List.getElem_cons_zero, Act.put, List.setIfInBounds_toArray, List.set_cons_zero, List.set_cons_succ])
            refine wpAnyH_ready (rs := [8]) (by kernel_rfl) (by simp) ?_
            refine AllReadyH.cons rfl (fun K8 hK8 => ?_) ?_
            · go_simp
              (go_at_call 30; ((with_reducible refine (scale_impl (d1, d2) _ _).mono ?_); rintro e w6 ⟨g1, g2, mg, rfl, hg1, hg2, rfl⟩; have HG := Lib.hid (show nc (g1, g2) = scaleC (sideF (nc lo) (nc hi) s) (fracF k st) from (show nc (g1, g2) = _ from Prod.ext hg1 hg2).trans (by rw [HD.out, HR.out])); clear hg1 hg2))
              (try go_wp2_with fail)
              refine hK8.out _ _ ?_ (fun hHeld8 => ?_)
              · first | assumption | exact xp | exact (Below.cell (B := wr.heap.size) (p := ⟨w.heap.size, 0, none⟩) (by assumption) (by simp only; omega)).trans xp
              clear hK8 K8
              (try simp only [List.getElem_toArray, List.getElem_cons_succ, List.getElem_cons_zero, Act.put, List.setIfInBounds_toArray, List.set_cons_zero, List.set_cons_succ])
              refine wpAnyH_ready (rs := [9]) (by kernel_rfl) (by simp) ?_
              refine AllReadyH.cons rfl (fun K9 hK9 => ?_) ?_
              · go_simp
                (go_at_call 29; ((with_reducible refine (plus_impl cr (g1, g2) _).mono ?_); rintro e w7 ⟨p1, p2, mp, rfl, hp1, hp2, rfl⟩; have HE := Lib.hid (show nc (p1, p2) = bpt (nc lo) (nc hi) st s k from (show nc (p1, p2) = _ from Prod.ext hp1 hp2).trans (by rw [HG.out, HC.out]; rfl)); clear hp1 hp2))
                (try go_wp2_with fail)
                refine hK9.out _ _ ?_ (fun hHeld9 => ?_)
                · first | assumption | exact xp | exact (Below.cell (B := wr.heap.size) (p := ⟨w.heap.size, 0, none⟩) (by assumption) (by simp only; omega)).trans xp
                clear hK9 K9
                (try simp only [List.getElem_toArray, List.getElem_cons_succ, List.getElem_cons_zero, Act.put, List.setIfInBounds_toArray, List.set_cons_zero, List.set_cons_succ])
                refine wpAnyH_ready (rs := [10]) (by kernel_rfl) (by simp) ?_
                refine AllReadyH.cons rfl (fun K10 hK10 => ?_) ?_
                · go_simp
                  (go_at_call 28; ((with_reducible refine (Hkey.out _ p1 p2 HE.out (by repeat (first | exact Below.refl _ _ | refine below_drewN ?_ _))).mono ?_); rintro e w8 ⟨a, b, rfl, ha, hb, hb8⟩)); have hb8r : Below wr.heap.size wr w8 := Below.trans (by repeat (first | exact Below.refl _ _ | refine below_drewN ?_ _)) hb8
                  (try go_wp2_with fail)
                  refine hK10.out _ _ ?_ (fun hHeld10 => ?_)
                  · first | assumption | exact xp | exact (Below.cell (B := wr.heap.size) (p := ⟨w.heap.size, 0, none⟩) (by assumption) (by simp only; omega)).trans xp
                  clear hK10 K10
                  (try simp only [List.getElem_toArray, List.getElem_cons_succ, List.getElem_cons_zero, Act.put, List.setIfInBounds_toArray, List.set_cons_zero, List.set_cons_succ])
                  refine wpAnyH_take (i := 11) (v := ?_) rfl (by kernel_rfl) (by kernel_rfl) (by kernel_rfl) (fun _ _ _ h => h) (Or.inl ⟨by rfl, ?_⟩) (by assumption) ?_
                  rotate_left 1
                  (intro w hSw; (try dsimp only at hSw); go_simp; (try with_reducible rfl))
                  (try simp only [List.getElem_toArray, List.getElem_cons_succ, List.getElem_cons_zero, Act.put, List.setIfInBounds_toArray, List.set_cons_zero, List.set_cons_succ])
                  refine wpAnyH_take (i := 12) (v := ?_) rfl (by kernel_rfl) (by kernel_rfl) (by kernel_rfl) (fun _ _ _ h => h) (Or.inl ⟨by rfl, ?_⟩) (by assumption) ?_
                  rotate_left 1
                  (intro w hSw; (try dsimp only at hSw); go_simp; (try with_reducible rfl))
                  (try simp only [List.getElem_toArray, List.getElem_cons_succ, List.getElem_cons_zero, Act.put, List.setIfInBounds_toArray, List.set_cons_zero, List.set_cons_succ])
                  refine wpAnyH_take (i := 13) (v := ?_) rfl (by kernel_rfl) (by kernel_rfl) (by kernel_rfl) (fun _ _ _ h => h) (Or.inl ⟨by rfl, ?_⟩) (by assumption) ?_
                  rotate_left 1
                  (intro w hSw; (try dsimp only at hSw); go_simp; (try with_reducible rfl))
                  (try simp only [List.getElem_toArray, List.getElem_cons_succ, List.getElem_cons_zero, Act.put, List.setIfInBounds_toArray, List.set_cons_zero, List.set_cons_succ])
                  refine wpAnyH_take (i := 14) (v := ?_) rfl (by kernel_rfl) (by kernel_rfl) (by kernel_rfl) (fun _ _ _ h => h) (Or.inl ⟨by rfl, ?_⟩) (by assumption) ?_
                  rotate_left 1
                  (intro w hSw; (try dsimp only at hSw); go_simp; (try with_reducible rfl))
                  (try simp only [List.getElem_toArray, List.getElem_cons_succ, List.getElem_cons_zero, Act.put, List.setIfInBounds_toArray, List.set_cons_zero, List.set_cons_succ])
                  refine wpAnyH_take (i := 15) (v := ?_) rfl (by kernel_rfl) (by kernel_rfl) (by kernel_rfl) (fun _ _ _ h => h) (Or.inl ⟨by rfl, ?_⟩) (by assumption) ?_
                  rotate_left 1
                  (intro w hSw; (try dsimp only at hSw); go_simp; (try with_reducible rfl))
                  (try simp only [List.getElem_toArray, List.getElem_cons_succ, List.getElem_cons_zero, Act.put, List.setIfInBounds_toArray, List.set_cons_zero, List.set_cons_succ])
                  refine wpAnyH_done (by kernel_rfl) ?_ _
                  have HAB := Lib.hid (show nc (a, b) = nestedF (rs.map nc) (bpt (nc lo) (nc hi) st s k) from Prod.ext ha hb)
                  have HEQ := Lib.hid ((raw_c HAB.out PT.out.2.2.1).trans HV.out.symm)
                  have hz2 : zeroC (nc (a, b)) = false := by rw [HAB.out]; exact PT.out.2.2.2
                  have hrow := Hrow.out.below hb8r
                  have Hb8 := Lib.hid (Hbel.out.trans (hb8r.mono (show W2.heap.size ≤ wr.heap.size from hsi)))
                  have hs8 := Hb8.out.size
                  have Hl := Lib.hid (show (cx ((List.range (st * s + k)).map (bvs (rs.map nc) (nc lo) (nc hi) st))).length ≤ 1099511627776 by rw [cx_length, List.length_map, List.length_range]; have : st * s ≤ 60 * 4 := Nat.mul_le_mul s60 (by omega); omega)
                  clear ha hb hb8 hb8r Hrow Hbel Hkey xp
                  go_wp2_with (at_builtin; go_must (refine wpList_pushV (.complex .f32 0 0) 8 hrow infoC rfl rfl (by decide) rfl _ _ rfl Try.underlying25 Hl.out (by omega) rfl rfl rfl rfl rfl rfl ?_); intro v1 w1 hr1 hb1 hg1 ho1)
                  go_roundw
                  case rel => exact ⟨k + 1, by omega, by go_num, by rw [show st * s + (k + 1) = (st * s + k) + 1 by omega, bvs_succ, ← HEQ.out, ← cx_push]; exact hr1, Hb8.out.trans hb1⟩
                  case measure => simp [intOf]; omega
                exact AllReadyH.nil
              exact AllReadyH.nil
            exact AllReadyH.nil
          exact AllReadyH.nil
        · obtain rfl : k = st := by omega
          have HKS := Lib.hid (show k * s + k = k * (s + 1) from (Nat.mul_succ k s).symm)
          rw [HKS.out] at hrow
          go_wp2_with fail
          go_roundw
          case rel => exact ⟨s + 1, by omega, by go_num, hrow, hbel⟩
          case measure => simp [intOf]; omega
    · obtain rfl : s = 4 := by omega
      have hne : (List.range (st * 4)).map (bvs (rs.map nc) (nc lo) (nc hi) st) ≠ [] := by
        intro h
        have := congrArg List.length h
        rw [List.length_map, List.length_range] at this
        simp at this
        omega
      have HL0 := Lib.hid (show ((List.range (st * 4)).map (bvs (rs.map nc) (nc lo) (nc hi) st)).length = st * 4 by rw [List.length_map, List.length_range])
      have Hl := Lib.hid (show (cx ((List.range (st * 4)).map (bvs (rs.map nc) (nc lo) (nc hi) st))).length ≤ 1099511627776 by rw [cx_length, HL0.out]; omega)
      rcases hrow.rd.openC with ⟨h, _⟩ | ⟨b0, f0, cap0, rfl, hb0, hcp0, hc0⟩
      · exact absurd h hne
      have c0 : wr.cell? ⟨b0, f0, none⟩ = some (.complex .f32 (bvs (rs.map nc) (nc lo) (nc hi) st 0).1 (bvs (rs.map nc) (nc lo) (nc hi) st 0).2) := by
        rw [show (⟨b0, f0, none⟩ : Addr) = ⟨b0, f0 + 0, none⟩ from rfl, hc0 0 (by rw [HL0.out]; omega)]
        simp
      rw [HL0.out] at hrow hcp0 ⊢
      have LR := Lib.hid (show (List.range (st * 4)).map (bvs (rs.map nc) (nc lo) (nc hi) st) ++ [bvs (rs.map nc) (nc lo) (nc hi) st 0] = (List.range (4 * st + 1)).map (bvs (rs.map nc) (nc lo) (nc hi) st) by
        rw [bvs_succ, bvs_last _ _ _ _ (by omega), show 4 * st = st * 4 by omega])
      have hn1 : (0 : Int) < ((st * 4 : Nat) : Int) := by omega
      have HN4 := Lib.hid (show st * 4 = st * 4 from rfl)
      generalize st * 4 = n4 at *
      have hsr := hbel.size
      clear hc0 hcp0 hne
      generalize bvs (rs.map nc) (nc lo) (nc hi) st 0 = v0 at *
      obtain ⟨v01, v02⟩ := v0
      go_wp2_with (at_builtin; go_must (refine wpList_pushV (.complex .f32 0 0) 8 hrow infoC rfl rfl (by decide) rfl _ _ rfl Try.underlying25 Hl.out (by omega) rfl rfl rfl rfl rfl rfl ?_); intro v1 w1 hr1 hb1 hg1 ho1)
      have HROW := Lib.hid (show RowV 31 w1 W2.heap.size v1 (cx ((List.range (4 * st + 1)).map (bvs (rs.map nc) (nc lo) (nc hi) st))) from by rw [← LR.out, ← cx_push]; exact hr1)
      have HB1 := Lib.hid (hbel.trans hb1)
      have hs1 := HB1.out.size
      clear hr1 hb1 hg1 ho1 hrow hbel c0
      rcases HROW.out.rd.openC with ⟨h, _⟩ | ⟨b1, f1, cap1, rfl, hb1, hcp1, hc1⟩
      · have := congrArg List.length h
        simp at this
      have HL1 : ((List.range (4 * st + 1)).map (bvs (rs.map nc) (nc lo) (nc hi) st)).length = 4 * st + 1 := by rw [List.length_map, List.length_range]
      have HC1 := Lib.hid (show ∀ i, i < 4 * st + 1 → w1.cell? ⟨b1, f1 + i, none⟩ = some (.complex .f32 (bvs (rs.map nc) (nc lo) (nc hi) st i).1 (bvs (rs.map nc) (nc lo) (nc hi) st i).2) from fun i hi => by
        rw [hc1 i (by rw [HL1]; exact hi)]
        simp)
      rw [HL1]
      have QI := Lib.hid (fun j (hj : j < 4 * st) w2 => quo_impl (bvs (rs.map nc) (nc lo) (nc hi) st (j + 1)) (bvs (rs.map nc) (nc lo) (nc hi) st j) (Lib.hid (by rw [nc_fin (HH.out.fin _), nc_fin (HH.out.fin _)]; exact (HH.out.quo j hj).1)) w2)
      have QE := Lib.hid (fun j => show quoC (nc (bvs (rs.map nc) (nc lo) (nc hi) st (j + 1))) (nc (bvs (rs.map nc) (nc lo) (nc hi) st j)) = bqt (rs.map nc) (nc lo) (nc hi) st j from by rw [nc_fin (HH.out.fin _), nc_fin (HH.out.fin _)]; rfl)
      have QK := Lib.hid (fun j (hj : j < 4 * st) => (HH.out.quo j hj).2)
      have SF := Lib.hid (show finiteN (turnS (rs.map nc) (nc lo) (nc hi) st (4 * st)) = (turnS (rs.map nc) (nc lo) (nc hi) st (4 * st), true) by unfold finiteN; rw [if_pos (by rw [finF_iff]; exact (HH.out.sum _ (Nat.le_refl _)).1)])
      have TS := Lib.hid (fun j => show turnS (rs.map nc) (nc lo) (nc hi) st (j + 1) = fop .add .f32 (turnS (rs.map nc) (nc lo) (nc hi) st j) (angF (bqt (rs.map nc) (nc lo) (nc hi) st j).2 (bqt (rs.map nc) (nc lo) (nc hi) st j).1) from rfl)
      have TZ := Lib.hid (show turnS (rs.map nc) (nc lo) (nc hi) st 0 = 0 from rfl)
      have BB := Lib.hid (B2.out.trans (HB1.out.mono (show w.heap.size ≤ W2.heap.size by omega)))
      have n0 := nrm0
      clear HL1 hc1 hcp1 HROW LR HB1 PA C2c Xp2 Hv2 B2 HH Hl HL0 HN4
      generalize turnS (rs.map nc) (nc lo) (nc hi) st = TT at *
      generalize bvs (rs.map nc) (nc lo) (nc hi) st = BV at *
      generalize bqt (rs.map nc) (nc lo) (nc hi) st = BQ at *
      have HN1 := Lib.hid (show 4 * st + 1 = 4 * st + 1 from rfl)
      generalize hn1e : 4 * st + 1 = n1 at *
      have HNE := Lib.hid hn1e
      generalize hn4e : 4 * st = nn at *
      have HNF := Lib.hid (show n1 = nn + 1 ∧ nn ≤ 240 by omega)
      clear HN1 hn1e hn4e
      go_loopw [18, 19] (fun sv iv wr => ∃ (j x : Nat), j ≤ nn ∧ iv = .int .i64 ((j : Int) + 1) ∧ sv = .float .f32 x ∧ nrm .f32 x = TT j ∧ Below w1.heap.size w1 wr) (fun _ iv _ => nn + 2 - (intOf iv).toNat)
      case atStart => exact ⟨0, 0, by omega, rfl, rfl, by rw [TZ.out]; exact n0, Below.refl _ _⟩
      case round =>
        obtain ⟨j, x, hj, rfl, rfl, hx, hbel⟩ := hrel
        have hsz := hbel.size
        by_cases hlt : j < nn
        · have l1 : b1 < w1.heap.size := hb1
          have cj := (hbel.cell (p := ⟨b1, f1 + j, none⟩) l1).trans (HC1.out j (by have := HNF.out; omega))
          have cj1 := (hbel.cell (p := ⟨b1, f1 + (j + 1), none⟩) l1).trans (HC1.out (j + 1) (by have := HNF.out; omega))
          have k0 : (0 : Int) ≤ (j : Int) := by omega
          have k1 : (j : Int) < (n1 : Int) := by have := HNF.out; omega
          have k2 : (0 : Int) ≤ (j : Int) + 1 := by omega
          have k3 : (j : Int) + 1 < (n1 : Int) := by have := HNF.out; omega
          have q1 : IntKind.i64.wrap (j : Int) = (j : Int) := IntWalk.i64_in _ ⟨by omega, by have := HNF.out; omega⟩
          have q2 : IntKind.i64.wrap ((j : Int) + 1 - 1) = (j : Int) := by rw [show (j : Int) + 1 - 1 = (j : Int) by omega]; exact q1
          have q3 : IntKind.i64.wrap ((j : Int) + 1 + 1) = ((j + 1 : Nat) : Int) + 1 := by rw [IntWalk.i64_in _ ⟨by omega, by have := HNF.out; omega⟩]; omega
          have QIj := Lib.hid (fun w2 => QI.out j hlt w2)
          have QEj := Lib.hid (QE.out j)
          have QKj := Lib.hid (QK.out j hlt)
          have TSj := Lib.hid (TS.out j)
          have HX := Lib.hid hx
          have Hbel := Lib.hid hbel
          have Q3 := Lib.hid q3
          clear hx hbel QI QE QK TS HC1
          generalize BV (j + 1) = y1 at *
          generalize BV j = y0 at *
          generalize BQ j = bj at *
          go_upto_region 23 with fail
          refine wp_region_held_drew (S := fun w' => w'.cell? ⟨b1, f1 + j, none⟩ = some (.complex .f32 y0.1 y0.2) ∧ w'.cell? ⟨b1, f1 + (j + 1), none⟩ = some (.complex .f32 y1.1 y1.2)) (by kernel_rfl) (by exact ⟨cj, cj1⟩) (fun hHeld => ?_)
          refine wpAnyH_take (i := 0) (v := ?_) rfl (by kernel_rfl) (by kernel_rfl) (by kernel_rfl) (fun _ _ _ h => h) (Or.inl ⟨by rfl, ?_⟩) (by assumption) ?_
          rotate_left 1
          (intro w hSw; (try dsimp only at hSw); go_simp; (try with_reducible rfl))
          (try simp only [List.getElem_toArray, List.getElem_cons_succ, List.getElem_cons_zero, Act.put, List.setIfInBounds_toArray, List.set_cons_zero, List.set_cons_succ])
          refine wpAnyH_take (i := 1) (v := ?_) rfl (by kernel_rfl) (by kernel_rfl) (by kernel_rfl) (fun _ _ _ h => h) (Or.inl ⟨by rfl, ?_⟩) (by assumption) ?_
          rotate_left 1
          (intro w hSw; (try dsimp only at hSw); go_simp; (try with_reducible rfl))
          (try simp only [List.getElem_toArray, List.getElem_cons_succ, List.getElem_cons_zero, Act.put, List.setIfInBounds_toArray, List.set_cons_zero, List.set_cons_succ])
          refine wpAnyH_take (i := 2) (v := ?_) rfl (by kernel_rfl) (by kernel_rfl) (by kernel_rfl) (fun _ _ _ h => h) (Or.inl ⟨by rfl, ?_⟩) (by assumption) ?_
          rotate_left 1
          (intro w hSw; (try dsimp only at hSw); go_simp; (try with_reducible rfl))
          (try simp only [List.getElem_toArray, List.getElem_cons_succ, List.getElem_cons_zero, Act.put, List.setIfInBounds_toArray, List.set_cons_zero, List.set_cons_succ])
          refine wpAnyH_take (i := 3) (v := ?_) rfl (by kernel_rfl) (by kernel_rfl) (by kernel_rfl) (fun _ _ _ h => h) (Or.inl ⟨by rfl, ?_⟩) (by assumption) ?_
          rotate_left 1
          (intro w hSw; (try dsimp only at hSw); go_simp; (try with_reducible rfl))
          (try simp only [List.getElem_toArray, List.getElem_cons_succ, List.getElem_cons_zero, Act.put, List.setIfInBounds_toArray, List.set_cons_zero, List.set_cons_succ])
          refine wpAnyH_take (i := 4) (v := ?_) rfl (by kernel_rfl) (by kernel_rfl) (by kernel_rfl) (fun _ _ _ h => h) (Or.inl ⟨by rfl, ?_⟩) (by assumption) ?_
          rotate_left 1
          (intro w hSw; (try dsimp only at hSw); go_simp; (try with_reducible rfl))
          (try simp only [List.getElem_toArray, List.getElem_cons_succ, List.getElem_cons_zero, Act.put, List.setIfInBounds_toArray, List.set_cons_zero, List.set_cons_succ])
          refine wpAnyH_take (i := 5) (v := ?_) rfl (by kernel_rfl) (by kernel_rfl) (by kernel_rfl) (fun _ _ _ h => h) (Or.inl ⟨by rfl, ?_⟩) (by assumption) ?_
          rotate_left 1
          (intro w hSw; (try dsimp only at hSw); go_simp; (try with_reducible rfl))
          (try simp only [List.getElem_toArray, List.getElem_cons_succ, List.getElem_cons_zero, Act.put, List.setIfInBounds_toArray, List.set_cons_zero, List.set_cons_succ])
          refine wpAnyH_take (i := 6) (v := ?_) rfl (by kernel_rfl) (by kernel_rfl) (by kernel_rfl) (fun _ _ _ h => h) (Or.inl ⟨by rfl, ?_⟩) (by assumption) ?_
          rotate_left 1
          (intro w hSw; (try dsimp only at hSw); go_simp; (try with_reducible rfl))
          (try simp only [List.getElem_toArray, List.getElem_cons_succ, List.getElem_cons_zero, Act.put, List.setIfInBounds_toArray, List.set_cons_zero, List.set_cons_succ])
          refine wpAnyH_take (i := 7) (v := ?_) rfl (by kernel_rfl) (by kernel_rfl) (by kernel_rfl) (fun _ _ _ h => h) (Or.inl ⟨by rfl, ?_⟩) (by assumption) ?_
          rotate_left 1
          (intro w hSw; (try dsimp only at hSw); go_simp; (try with_reducible rfl))
          (try simp only [List.getElem_toArray, List.getElem_cons_succ, List.getElem_cons_zero, Act.put, List.setIfInBounds_toArray, List.set_cons_zero, List.set_cons_succ])
          refine wpAnyH_take (i := 8) (v := ?_) rfl (by kernel_rfl) (by kernel_rfl) (by kernel_rfl) (fun _ _ _ h => h) (Or.inl ⟨by rfl, ?_⟩) (by assumption) ?_
          rotate_left 1
          (intro w hSw; (try dsimp only at hSw); go_simp; (try with_reducible rfl))
          (try simp only [List.getElem_toArray, List.getElem_cons_succ, List.getElem_cons_zero, Act.put, List.setIfInBounds_toArray, List.set_cons_zero, List.set_cons_succ])
          refine wpAnyH_take (i := 9) (v := ?_) rfl (by kernel_rfl) (by kernel_rfl) (by kernel_rfl) (fun _ _ _ h => h) (Or.inl ⟨by rfl, ?_⟩) (by assumption) ?_
          rotate_left 1
          (intro w hSw; (try dsimp only at hSw); go_simp; (try with_reducible rfl))
          (try simp only [List.getElem_toArray, List.getElem_cons_succ, List.getElem_cons_zero, Act.put, List.setIfInBounds_toArray, List.set_cons_zero, List.set_cons_succ])
          refine wpAnyH_ready (rs := [10]) (by kernel_rfl) (by simp) ?_
          refine AllReadyH.cons rfl (fun K10 hK10 => ?_) ?_
          · go_simp
            (go_at_call 32; ((with_reducible refine (QIj.out _).mono ?_); rintro e w6 ⟨g1, g2, mg, rfl, hg1, hg2, rfl⟩; have HG := Lib.hid (show nc (g1, g2) = bj from (show nc (g1, g2) = _ from Prod.ext hg1 hg2).trans QEj.out); clear hg1 hg2))
            (try go_wp2_with fail)
            refine hK10.out _ _ ?_ (fun hHeld10 => ?_)
            · first | assumption | exact ⟨cj, cj1⟩ | (refine ⟨(Below.cell (B := wr.heap.size) (p := ⟨b1, f1 + j, none⟩) (w := wr) ?_ ?_).trans cj, (Below.cell (B := wr.heap.size) (p := ⟨b1, f1 + (j + 1), none⟩) (w := wr) ?_ ?_).trans cj1⟩ <;> first | assumption | (simp only; omega))
            clear hK10 K10
            (try simp only [List.getElem_toArray, List.getElem_cons_succ, List.getElem_cons_zero, Act.put, List.setIfInBounds_toArray, List.set_cons_zero, List.set_cons_succ])
            refine wpAnyH_ready (rs := [11]) (by kernel_rfl) (by simp) ?_
            refine AllReadyH.cons rfl (fun K11 hK11 => ?_) ?_
            · go_simp
              (go_at_call 31; ((with_reducible refine (angC_impl (g1, g2) _ (by rw [HG.out]; exact QKj.out.1) (by rw [HG.out]; exact QKj.out.2.1) (by rw [HG.out]; exact QKj.out.2.2)).mono ?_); rintro e w7 ⟨ra, rfl, hra, hb7⟩; have HRA := Lib.hid (show nrm .f32 ra = angF bj.2 bj.1 by rw [hra, HG.out]); have hb7r : Below wr.heap.size wr w7 := Below.trans (by repeat (first | exact Below.refl _ _ | refine below_drewN ?_ _)) hb7; clear hra hb7))
              (try go_wp2_with fail)
              refine hK11.out _ _ ?_ (fun hHeld11 => ?_)
              · first | assumption | exact ⟨cj, cj1⟩ | (refine ⟨(Below.cell (B := wr.heap.size) (p := ⟨b1, f1 + j, none⟩) (w := wr) ?_ ?_).trans cj, (Below.cell (B := wr.heap.size) (p := ⟨b1, f1 + (j + 1), none⟩) (w := wr) ?_ ?_).trans cj1⟩ <;> first | assumption | (simp only; omega))
              clear hK11 K11
              (try simp only [List.getElem_toArray, List.getElem_cons_succ, List.getElem_cons_zero, Act.put, List.setIfInBounds_toArray, List.set_cons_zero, List.set_cons_succ])
              refine wpAnyH_ready (rs := [12]) (by kernel_rfl) (by simp) ?_
              refine AllReadyH.cons rfl (fun K12 hK12 => ?_) ?_
              · go_simp
                (first | (with_reducible refine upon_fop .add rfl _ .f32 _ _ ?_) | (with_reducible refine wpList_fop rfl .add _ _ _ _ rfl rfl .f32 _ _ rfl rfl ?_)); intro r mr hr; have HR := Lib.hid (show nrm .f32 r = TT (j + 1) from by rw [hr, HX.out, HRA.out, TSj.out]); have hb8r := below_drewN hb7r mr; clear hr
                (try go_wp2_with fail)
                refine hK12.out _ _ ?_ (fun hHeld12 => ?_)
                · first | assumption | exact ⟨cj, cj1⟩ | (refine ⟨(Below.cell (B := wr.heap.size) (p := ⟨b1, f1 + j, none⟩) (w := wr) ?_ ?_).trans cj, (Below.cell (B := wr.heap.size) (p := ⟨b1, f1 + (j + 1), none⟩) (w := wr) ?_ ?_).trans cj1⟩ <;> first | assumption | (simp only; omega))
                clear hK12 K12
                (try simp only [List.getElem_toArray, List.getElem_cons_succ, List.getElem_cons_zero, Act.put, List.setIfInBounds_toArray, List.set_cons_zero, List.set_cons_succ])
                refine wpAnyH_take (i := 13) (v := ?_) rfl (by kernel_rfl) (by kernel_rfl) (by kernel_rfl) (fun _ _ _ h => h) (Or.inl ⟨by rfl, ?_⟩) (by assumption) ?_
                rotate_left 1
                (intro w hSw; (try dsimp only at hSw); go_simp; (try with_reducible rfl))
                (try simp only [List.getElem_toArray, List.getElem_cons_succ, List.getElem_cons_zero, Act.put, List.setIfInBounds_toArray, List.set_cons_zero, List.set_cons_succ])
                refine wpAnyH_done (by kernel_rfl) ?_ _
                have HB8 := Lib.hid (Hbel.out.trans (hb8r.mono hsz))
                clear hb7r hb8r
                go_wp2_with fail
                go_roundw
                case rel => exact ⟨j + 1, r, by omega, by first | rw [Q3.out] | go_num, rfl, HR.out, HB8.out⟩
                case measure => simp [intOf]; omega
              exact AllReadyH.nil
            exact AllReadyH.nil
          exact AllReadyH.nil
        · obtain rfl : j = nn := by omega
          have k3 : ¬ ((j : Int) + 1 < (n1 : Int)) := by have := HNF.out; omega
          have HX := Lib.hid hx
          have HW := Lib.hid (BB.out.trans (hbel.mono (show w.heap.size ≤ w1.heap.size by omega)))
          clear hx hbel QI QE QK TS HC1
          go_wp2_with fail
          (go_at_call 33; ((with_reducible refine (checked_impl x _).mono ?_); rintro e w9 ⟨a, rfl, ha, hb9⟩))
          rw [HX.out, SF.out] at *
          have Ha := Lib.hid ha
          have Hb9 := Lib.hid (HW.out.trans (hb9.mono HW.out.size))
          clear ha hb9
          go_wp2_with fail
          go_ret2
          exact ⟨_, rfl, Ha.out, Hb9.out⟩
end Go.Proofs.Ytklonahkacikbaa
