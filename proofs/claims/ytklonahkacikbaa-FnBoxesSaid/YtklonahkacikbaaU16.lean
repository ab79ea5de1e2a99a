/- The turns around a box, of the reference. Conditions: nothing is too great and no value is 0 around the box. -/
import Derived.Test.YtklonahkacikbaaU14
namespace Go.Proofs.Ytklonahkacikbaa
open Go Go.RowKit
set_option linter.unusedSimpArgs false
set_option linter.unusedVariables false

set_option maxRecDepth 100000 in
set_option maxHeartbeats 8000000 in
theorem turns_spec (p : Nat) (v : Value) (rs : List C2) (lo hi : C2) (st : Nat) (w : World) (hp : w.cell? ⟨p, 0, none⟩ = some v) (hv : RdV w v (cx rs)) (h1 : 1 ≤ rs.length) (h2 : rs.length ≤ 17) (H : BoxOk (rs.map nc) (nc lo) (nc hi) st) (hlo : nc lo = lo) :
    Calls Try.prog 79 #[.pointer (some ⟨p, 0, none⟩), .complex .f32 lo.1 lo.2, .complex .f32 hi.1 hi.2, .int .i64 (st : Int)] w (RetFB (turnS (rs.map nc) (nc lo) (nc hi) st (4 * st), true) w) := by
  obtain ⟨ao, cap, rfl, _⟩ := hv.shape
  rw [cx_length] at hv hp
  have s4 := H.s4
  have s60 := H.s60
  have lp : p < w.heap.size := World.block_lt_of_cell? _ _ hp
  have Xp := Lib.hid hp
  have Hv := Lib.hid hv
  have PA := Lib.hid (fun w1 z hv Hs => polyAt_spec (.slice ao rs.length cap) rs z w1 hv h1 h2 Hs)
  have HH := Lib.hid H
  have HLO := Lib.hid hlo
  clear hv h1 h2 H hp hlo
  go_enter Try.func79, Try.ntmps79
  go_upto_region 2 with fail
  have b2 : Below w.heap.size w (w.alloc (.cells #[.complex .f32 lo.1 lo.2, .complex .f32 hi.1 lo.2, .complex .f32 hi.1 hi.2, .complex .f32 lo.1 hi.2, .complex .f32 lo.1 lo.2] 31)) := by (repeat' (first | (with_reducible exact Below.refl _ _) | (with_reducible assumption) | (with_reducible refine Below.alloc ?_ ?_ _) | (with_reducible refine Below.setCell ?_ ?_ _) | (with_reducible refine Below.drew ?_) | (with_reducible refine Below.via (by assumption) ?_ ?_) | go_size))
  have C2c := Lib.hid (show ∀ s, s ≤ 4 → (w.alloc (.cells #[.complex .f32 lo.1 lo.2, .complex .f32 hi.1 lo.2, .complex .f32 hi.1 hi.2, .complex .f32 lo.1 hi.2, .complex .f32 lo.1 lo.2] 31)).cell? ⟨w.heap.size, s, none⟩ = some (.complex .f32 (corner lo hi s).1 (corner lo hi s).2) from fun s hs => by
    rcases (by omega : s = 0 ∨ s = 1 ∨ s = 2 ∨ s = 3 ∨ s = 4) with rfl | rfl | rfl | rfl | rfl <;> (exact (World.cell?_alloc_new w _ 31 _ : _)))
  have z2 : (w.alloc (.cells #[.complex .f32 lo.1 lo.2, .complex .f32 hi.1 lo.2, .complex .f32 hi.1 hi.2, .complex .f32 lo.1 hi.2, .complex .f32 lo.1 lo.2] 31)).heap.size = w.heap.size + 1 := by simp
  generalize (w.alloc (.cells #[.complex .f32 lo.1 lo.2, .complex .f32 hi.1 lo.2, .complex .f32 hi.1 hi.2, .complex .f32 lo.1 hi.2, .complex .f32 lo.1 lo.2] 31)) = W2 at *
  have Hv2 := Lib.hid (Hv.out.below b2)
  have Xp2 := Lib.hid ((b2.cell (p := ⟨p, 0, none⟩) lp).trans Xp.out)
  have B2 := Lib.hid b2
  have lw2 : w.heap.size < W2.heap.size := by omega
  have lp2 : p < W2.heap.size := by omega
  clear Hv Xp b2 z2
  go_wp2_with fail
  go_loopw [11, 12] (fun ov iv wr => ∃ (s : Nat), s ≤ 4 ∧ iv = .int .i64 (s : Int) ∧ RowV 31 wr W2.heap.size ov (cx ((List.range (st * s)).map (bps (nc lo) (nc hi) st))) ∧ Below W2.heap.size W2 wr) (fun _ iv _ => 4 - (intOf iv).toNat)
  case atStart => exact ⟨0, by omega, rfl, by first | exact row_nilS rfl (Nat.le_refl _) _ | exact row_nil (Nat.le_refl _) _, by (repeat' (first | (with_reducible exact Below.refl _ _) | (with_reducible assumption) | (with_reducible refine Below.alloc ?_ ?_ _) | (with_reducible refine Below.setCell ?_ ?_ _) | (with_reducible refine Below.drew ?_) | (with_reducible refine Below.via (by assumption) ?_ ?_) | go_size))⟩
  case round =>
    obtain ⟨s, hs4, rfl, hrow, hbel⟩ := hrel
    by_cases hlt : s < 4
    · have j1 : (s : Int) < 4 := by omega
      have cs0 := (hbel.cell (p := ⟨w.heap.size, s, none⟩) lw2).trans (C2c.out s (by omega))
      have cs1 := (hbel.cell (p := ⟨w.heap.size, s + 1, none⟩) lw2).trans (C2c.out (s + 1) (by omega))
      have k0 : (0 : Int) ≤ (s : Int) := by omega
      have k5 : (s : Int) < 5 := by omega
      have k6 : (s : Int) + 1 < 5 := by omega
      have k7 : (0 : Int) ≤ (s : Int) + 1 := by omega
      have ks : IntKind.i64.wrap ((s : Int) + 1) = (s : Int) + 1 := IntWalk.i64_in _ ⟨by omega, by omega⟩
      have Hrow := Lib.hid hrow
      have Hbel := Lib.hid hbel
      clear hrow hbel
      go_upto_region 6 with fail
      refine wp_region_held_drew (S := fun w' => w'.cell? ⟨w.heap.size, s, none⟩ = some (.complex .f32 (corner lo hi s).1 (corner lo hi s).2) ∧ w'.cell? ⟨w.heap.size, s + 1, none⟩ = some (.complex .f32 (corner lo hi (s + 1)).1 (corner lo hi (s + 1)).2)) (by kernel_rfl) (by exact ⟨cs0, cs1⟩) (fun hHeld => ?_)
      refine wpAnyH_take (i := 0) (v := ?_) rfl (by kernel_rfl) (by kernel_rfl) (by kernel_rfl) (fun _ _ _ h => h) (Or.inl ⟨by rfl, ?_⟩) (by assumption) ?_
      rotate_left 1
      (intro w hSw; (try dsimp only at hSw); go_simp; (try with_reducible rfl))
      (try simp only [List.getElem_toArray, List.getElem_cons_succ, List.getElem_cons_zero, Act.put, List.setIfInBounds_toArray, List.set_cons_zero, List.set_cons_succ])
      refine wpAnyH_take (i := 1) (v := ?_) rfl (by kernel_rfl) (by kernel_rfl) (by kernel_rfl) (fun _ _ _ h => h) (Or.inl ⟨by rfl, ?_⟩) (by assumption) ?_
      rotate_left 1
      (intro w hSw; (try dsimp only at hSw); go_simp; (try with_reducible rfl))
      (try simp only [List.getElem_toArray, List.getElem_cons_succ, List.getElem_cons_zero, Act.put, List.setIfInBounds_toArray, List.set_cons_zero, List.set_cons_succ])
      refine wpAnyH_take (i := 2) (v := ?_) rfl (by kernel_rfl) (by kernel_rfl) (by kernel_rfl) (fun _ _ _ h => h) (Or.inl ⟨by rfl, ?_⟩) (by assumption) ?_
      rotate_left 1
      (intro w hSw; (try dsimp only at hSw); go_simp; (try with_reducible rfl))
      (try simp only [List.getElem_toArray, List.getElem_cons_succ, List.getElem_cons_zero, Act.put, List.setIfInBounds_toArray, List.set_cons_zero, List.set_cons_succ])
      refine wpAnyH_take (i := 3) (v := ?_) rfl (by kernel_rfl) (by kernel_rfl) (by kernel_rfl) (fun _ _ _ h => h) (Or.inl ⟨by rfl, ?_⟩) (by assumption) ?_
      rotate_left 1
      (intro w hSw; (try dsimp only at hSw); go_simp; (try with_reducible rfl))
      (try simp only [List.getElem_toArray, List.getElem_cons_succ, List.getElem_cons_zero, Act.put, List.setIfInBounds_toArray, List.set_cons_zero, List.set_cons_succ])
      refine wpAnyH_take (i := 4) (v := ?_) rfl (by kernel_rfl) (by kernel_rfl) (by kernel_rfl) (fun _ _ _ h => h) (Or.inl ⟨by rfl, ?_⟩) (by assumption) ?_
      rotate_left 1
      (intro w hSw; (try dsimp only at hSw); go_simp; (try with_reducible rfl))
      (try simp only [List.getElem_toArray, List.getElem_cons_succ, List.getElem_cons_zero, Act.put, List.setIfInBounds_toArray, List.set_cons_zero, List.set_cons_succ])
      refine wpAnyH_take (i := 5) (v := ?_) rfl (by kernel_rfl) (by kernel_rfl) (by kernel_rfl) (fun _ _ _ h => h) (Or.inl ⟨by rfl, ?_⟩) (by assumption) ?_
      rotate_left 1
      (intro w hSw; (try dsimp only at hSw); go_simp; (try with_reducible rfl))
      (try simp only [List.getElem_toArray, List.getElem_cons_succ, List.getElem_cons_zero, Act.put, List.setIfInBounds_toArray, List.set_cons_zero, List.set_cons_succ])
      refine wpAnyH_take (i := 6) (v := ?_) rfl (by kernel_rfl) (by kernel_rfl) (by kernel_rfl) (fun _ _ _ h => h) (Or.inl ⟨by rfl, ?_⟩) (by assumption) ?_
      rotate_left 1
      (intro w hSw; (try dsimp only at hSw); go_simp; (try with_reducible rfl))
      (try simp only [List.getElem_toArray, List.getElem_cons_succ, List.getElem_cons_zero, Act.put, List.setIfInBounds_toArray, List.set_cons_zero, List.set_cons_succ])
      refine wpAnyH_take (i := 7) (v := ?_) rfl (by kernel_rfl) (by kernel_rfl) (by kernel_rfl) (fun _ _ _ h => h) (Or.inl ⟨by rfl, ?_⟩) (by assumption) ?_
      rotate_left 1
      (intro w hSw; (try dsimp only at hSw); go_simp; (try with_reducible rfl))
      (try simp only [List.getElem_toArray, List.getElem_cons_succ, List.getElem_cons_zero, Act.put, List.setIfInBounds_toArray, List.set_cons_zero, List.set_cons_succ])
      refine wpAnyH_take (i := 8) (v := ?_) rfl (by kernel_rfl) (by kernel_rfl) (by kernel_rfl) (fun _ _ _ h => h) (Or.inl ⟨by rfl, ?_⟩) (by assumption) ?_
      rotate_left 1
      (intro w hSw; (try dsimp only at hSw); go_simp; (try with_reducible rfl))
      (try simp only [List.getElem_toArray, List.getElem_cons_succ, List.getElem_cons_zero, Act.put, List.setIfInBounds_toArray, List.set_cons_zero, List.set_cons_succ])
      refine wpAnyH_ready (rs := [9]) (by kernel_rfl) (by simp) ?_
      refine AllReadyH.cons rfl (fun K9 hK9 => ?_) ?_
      · go_simp
        (first | (with_reducible refine upon_cadd .sub (.inr rfl) _ _ _ _ _ ?_) | (with_reducible refine wpList_cadd rfl .sub (.inr rfl) _ _ _ _ rfl _ _ _ _ rfl rfl ?_)); intro d1 d2 m5 hd1 hd2; have HD := Lib.hid (show nc (d1, d2) = sideF (nc lo) (nc hi) s from (show nc (d1, d2) = subC (nc (corner lo hi (s + 1))) (nc (corner lo hi s)) from Prod.ext hd1 hd2).trans (by rw [corner_nc, corner_nc]; rfl)); clear hd1 hd2
        (try go_wp2_with fail)
        refine hK9.out _ _ ?_ (fun hHeld9 => ?_)
        · first | assumption | exact ⟨cs0, cs1⟩ | (refine ⟨?_, ?_⟩ <;> first | assumption | (simp; assumption))
        clear hK9 K9
        (try simp only [List.getElem_toArray, List.getElem_cons_succ, List.getElem_cons_zero, Act.put, List.setIfInBounds_toArray, List.set_cons_zero, List.set_cons_succ])
        refine wpAnyH_take (i := 10) (v := ?_) rfl (by kernel_rfl) (by kernel_rfl) (by kernel_rfl) (fun _ _ _ h => h) (Or.inl ⟨by rfl, ?_⟩) (by assumption) ?_
        rotate_left 1
        (intro w hSw; (try dsimp only at hSw); go_simp; (try with_reducible rfl))
        (try simp only [List.getElem_toArray, List.getElem_cons_succ, List.getElem_cons_zero, Act.put, List.setIfInBounds_toArray, List.set_cons_zero, List.set_cons_succ])
        refine wpAnyH_done (by kernel_rfl) ?_ _
        have hbx : Below W2.heap.size W2 (wr.drewN (1 + m5)) := below_drewN Hbel.out _
        have hrx := Hrow.out.below (below_drewN (Below.refl wr.heap.size wr) (1 + m5))
        clear cs0 cs1 k0 k5 k6 k7 ks Hrow Hbel
        generalize (wr.drewN (1 + m5)) = wy at *
        have hsy := hbx.size
        go_wp2_with fail
        go_loopw [11, 14] (fun ov iv wi => ∃ (k : Nat), k ≤ st ∧ iv = .int .i64 (k : Int) ∧ RowV 31 wi W2.heap.size ov (cx ((List.range (st * s + k)).map (bps (nc lo) (nc hi) st))) ∧ Below W2.heap.size W2 wi) (fun _ iv _ => st - (intOf iv).toNat)
        case atStart => exact ⟨0, by omega, rfl, hrx, hbx⟩
        case round =>
          obtain ⟨k, hkst, rfl, hrow, hbel⟩ := hrel
          have hsi := hbel.size
          by_cases hk : k < st
          · have j2 : (k : Int) < (st : Int) := by omega
            have cs0 := (hbel.cell (p := ⟨w.heap.size, s, none⟩) lw2).trans (C2c.out s (by omega))
            have PT := Lib.hid (HH.out.pt s k hlt hk)
            have HV := Lib.hid (bps_at (nc lo) (nc hi) hlt hk)
            have Hrow := Lib.hid hrow
            have Hbel := Lib.hid hbel
            have k0 : (0 : Int) ≤ (s : Int) := by omega
            have k5 : (s : Int) < 5 := by omega
            have Hl := Lib.hid (show (cx ((List.range (st * s + k)).map (bps (nc lo) (nc hi) st))).length ≤ 1099511627776 by rw [cx_length, List.length_map, List.length_range]; have : st * s ≤ 60 * 4 := Nat.mul_le_mul s60 (by omega); omega)
            clear hrow hbel hkst hrx
            go_upto_region 10 with fail
            refine wp_region_held_drew (S := fun w' => w'.cell? ⟨w.heap.size, s, none⟩ = some (.complex .f32 (corner lo hi s).1 (corner lo hi s).2)) (by kernel_rfl) (by exact cs0) (fun hHeld => ?_)
            refine wpAnyH_take (i := 0) (v := ?_) rfl (by kernel_rfl) (by kernel_rfl) (by kernel_rfl) (fun _ _ _ h => h) (Or.inl ⟨by rfl, ?_⟩) (by assumption) ?_
            rotate_left 1
            (intro w hSw; (try dsimp only at hSw); go_simp; (try with_reducible rfl))
            (try simp only [List.getElem_toArray, List.getElem_cons_succ, List.getElem_cons_zero, Act.put, List.setIfInBounds_toArray, List.set_cons_zero, List.set_cons_succ])
            refine wpAnyH_take (i := 1) (v := ?_) rfl (by kernel_rfl) (by kernel_rfl) (by kernel_rfl) (fun _ _ _ h => h) (Or.inl ⟨by rfl, ?_⟩) (by assumption) ?_
            rotate_left 1
            (intro w hSw; (try dsimp only at hSw); go_simp; (try with_reducible rfl))
            (try simp only [List.getElem_toArray, List.getElem_cons_succ, List.getElem_cons_zero, Act.put, List.setIfInBounds_toArray, List.set_cons_zero, List.set_cons_succ])
            refine wpAnyH_take (i := 2) (v := ?_) rfl (by kernel_rfl) (by kernel_rfl) (by kernel_rfl) (fun _ _ _ h => h) (Or.inl ⟨by rfl, ?_⟩) (by assumption) ?_
            rotate_left 1
            (intro w hSw; (try dsimp only at hSw); go_simp; (try with_reducible rfl))
            (try simp only [List.getElem_toArray, List.getElem_cons_succ, List.getElem_cons_zero, Act.put, List.setIfInBounds_toArray, List.set_cons_zero, List.set_cons_succ])
            refine wpAnyH_take (i := 3) (v := ?_) rfl (by kernel_rfl) (by kernel_rfl) (by kernel_rfl) (fun _ _ _ h => h) (Or.inl ⟨by rfl, ?_⟩) (by assumption) ?_
            rotate_left 1
            (intro w hSw; (try dsimp only at hSw); go_simp; (try with_reducible rfl))
            (try simp only [List.getElem_toArray, List.getElem_cons_succ, List.getElem_cons_zero, Act.put, List.setIfInBounds_toArray, List.set_cons_zero, List.set_cons_succ])
            refine wpAnyH_take (i := 4) (v := ?_) rfl (by kernel_rfl) (by kernel_rfl) (by kernel_rfl) (fun _ _ _ h => h) (Or.inl ⟨by rfl, ?_⟩) (by assumption) ?_
            rotate_left 1
            (intro w hSw; (try dsimp only at hSw); go_simp; (try with_reducible rfl))
            (try simp only [List.getElem_toArray, List.getElem_cons_succ, List.getElem_cons_zero, Act.put, List.setIfInBounds_toArray, List.set_cons_zero, List.set_cons_succ])
            refine wpAnyH_take (i := 5) (v := ?_) rfl (by kernel_rfl) (by kernel_rfl) (by kernel_rfl) (fun _ _ _ h => h) (Or.inl ⟨by rfl, ?_⟩) (by assumption) ?_
            rotate_left 1
            (intro w hSw; (try dsimp only at hSw); go_simp; (try with_reducible rfl))
            (try simp only [List.getElem_toArray, List.getElem_cons_succ, List.getElem_cons_zero, Act.put, List.setIfInBounds_toArray, List.set_cons_zero, List.set_cons_succ])
            refine wpAnyH_take (i := 6) (v := ?_) rfl (by kernel_rfl) (by kernel_rfl) (by kernel_rfl) (fun _ _ _ h => h) (Or.inl ⟨by rfl, ?_⟩) (by assumption) ?_
            rotate_left 1
            (intro w hSw; (try dsimp only at hSw); go_simp; (try with_reducible rfl))
            (try simp only [List.getElem_toArray, List.getElem_cons_succ, List.getElem_cons_zero, Act.put, List.setIfInBounds_toArray, List.set_cons_zero, List.set_cons_succ])
            refine wpAnyH_take (i := 7) (v := ?_) rfl (by kernel_rfl) (by kernel_rfl) (by kernel_rfl) (fun _ _ _ h => h) (Or.inl ⟨by rfl, ?_⟩) (by assumption) ?_
            rotate_left 1
            (intro w hSw; (try dsimp only at hSw); go_simp; (try with_reducible rfl))
            (try simp only [List.getElem_toArray, List.getElem_cons_succ, List.getElem_cons_zero, Act.put, List.setIfInBounds_toArray, List.set_cons_zero, List.set_cons_succ])
            refine wpAnyH_take (i := 8) (v := ?_) rfl (by kernel_rfl) (by kernel_rfl) (by kernel_rfl) (fun _ _ _ h => h) (Or.inl ⟨by rfl, ?_⟩) (by assumption) ?_
            rotate_left 1
            (intro w hSw; (try dsimp only at hSw); go_simp; (try with_reducible rfl))
            (try simp only [List.getElem_toArray, List.getElem_cons_succ, List.getElem_cons_zero, Act.put, List.setIfInBounds_toArray, List.set_cons_zero, List.set_cons_succ])
            refine wpAnyH_take (i := 9) (v := ?_) rfl (by kernel_rfl) (by kernel_rfl) (by kernel_rfl) (fun _ _ _ h => h) (Or.inl ⟨by rfl, ?_⟩) (by assumption) ?_
            rotate_left 1
            (intro w hSw; (try dsimp only at hSw); go_simp; (try with_reducible rfl))
            (try simp only [List.getElem_toArray, List.getElem_cons_succ, List.getElem_cons_zero, Act.put, List.setIfInBounds_toArray, List.set_cons_zero, List.set_cons_succ])
            refine wpAnyH_ready (rs := [10]) (by kernel_rfl) (by simp) ?_
            refine AllReadyH.cons rfl (fun K10 hK10 => ?_) ?_
            · go_simp
              (first | (with_reducible refine upon_fop .quo rfl _ .f32 _ _ ?_) | (with_reducible refine wpList_fop rfl .quo _ _ _ _ rfl rfl .f32 _ _ rfl rfl ?_)); intro r mr hr; have HR := Lib.hid (show nrm .f32 r = fracF k st from hr); clear hr
              (try go_wp2_with fail)
              refine hK10.out _ _ ?_ (fun hHeld10 => ?_)
              · first | assumption | exact cs0 | (exact (Below.cell (B := wr.heap.size) (w := wr) (by first | assumption | (repeat (first | exact Below.refl _ _ | refine Below.alloc ?_ (by simp) _ | refine below_drewN ?_ _))) (by simp only; omega)).trans cs0)
              clear hK10 K10
              (try simp only [List.getElem_toArray, List.getElem_cons_succ, List.getElem_cons_zero, Act.put, List.setIfInBounds_toArray, List.set_cons_zero, List.set_cons_succ])
              refine wpAnyH_ready (rs := [11]) (by kernel_rfl) (by simp) ?_
              refine AllReadyH.cons rfl (fun K11 hK11 => ?_) ?_
              · go_simp
                (go_at_call 62; ((with_reducible refine (times3_spec (d1, d2) _ _).mono ?_); rintro e w6 ⟨g1, g2, mg, rfl, hg1, hg2, rfl⟩; have HG := Lib.hid (show nc (g1, g2) = scaleC (sideF (nc lo) (nc hi) s) (fracF k st) from (show nc (g1, g2) = _ from Prod.ext hg1 hg2).trans (by rw [HD.out, HR.out])); clear hg1 hg2))
                (try go_wp2_with fail)
                refine hK11.out _ _ ?_ (fun hHeld11 => ?_)
                · first | assumption | exact cs0 | (exact (Below.cell (B := wr.heap.size) (w := wr) (by first | assumption | (repeat (first | exact Below.refl _ _ | refine Below.alloc ?_ (by simp) _ | refine below_drewN ?_ _))) (by simp only; omega)).trans cs0)
                clear hK11 K11
                (try simp only [List.getElem_toArray, List.getElem_cons_succ, List.getElem_cons_zero, Act.put, List.setIfInBounds_toArray, List.set_cons_zero, List.set_cons_succ])
                refine wpAnyH_ready (rs := [12]) (by kernel_rfl) (by simp) ?_
                refine AllReadyH.cons rfl (fun K12 hK12 => ?_) ?_
                · go_simp
                  (first | (with_reducible refine upon_cadd .add (.inl rfl) _ _ _ _ _ ?_) | (with_reducible refine wpList_cadd rfl .add (.inl rfl) _ _ _ _ rfl _ _ _ _ rfl rfl ?_)); intro p1 p2 mp hp1 hp2; have HE := Lib.hid (show nc (p1, p2) = bpt (nc lo) (nc hi) st s k from (show nc (p1, p2) = addC (nc (corner lo hi s)) (nc (g1, g2)) from Prod.ext hp1 hp2).trans (by rw [HG.out, corner_nc]; rfl)); have HEQ := Lib.hid ((raw_c HE.out PT.out.1).trans HV.out.symm); clear hp1 hp2
                  (try go_wp2_with fail)
                  refine hK12.out _ _ ?_ (fun hHeld12 => ?_)
                  · first | assumption | exact cs0 | (exact (Below.cell (B := wr.heap.size) (w := wr) (by first | assumption | (repeat (first | exact Below.refl _ _ | refine Below.alloc ?_ (by simp) _ | refine below_drewN ?_ _))) (by simp only; omega)).trans cs0)
                  clear hK12 K12
                  (try simp only [List.getElem_toArray, List.getElem_cons_succ, List.getElem_cons_zero, Act.put, List.setIfInBounds_toArray, List.set_cons_zero, List.set_cons_succ])
                  refine wpAnyH_ready (rs := [13]) (by kernel_rfl) (by simp) ?_
                  refine AllReadyH.cons rfl (fun K13 hK13 => ?_) ?_
                  · go_simp
                    (try go_wp2_with fail)
                    refine hK13.out _ _ ?_ (fun hHeld13 => ?_)
                    · first | assumption | exact cs0 | (exact (Below.cell (B := wr.heap.size) (w := wr) (by first | assumption | (repeat (first | exact Below.refl _ _ | refine Below.alloc ?_ (by simp) _ | refine below_drewN ?_ _))) (by simp only; omega)).trans cs0)
                    clear hK13 K13
                    (try simp only [List.getElem_toArray, List.getElem_cons_succ, List.getElem_cons_zero, Act.put, List.setIfInBounds_toArray, List.set_cons_zero, List.set_cons_succ])
                    refine wpAnyH_ready (rs := [14]) (by kernel_rfl) (by simp) ?_
                    refine AllReadyH.cons rfl (fun K14 hK14 => ?_) ?_
                    · (skip)
                      (refine step_pushC (B := W2.heap.size) (xs := cx ((List.range (st * s + k)).map (bps (nc lo) (nc hi) st))) (y := .complex .f32 p1 p2) rfl _ _ rfl Try.underlying25 (Hrow.out.below (by (repeat (first | exact Below.refl _ _ | refine Below.alloc ?_ (by simp) _ | refine below_drewN ?_ _)))) Hl.out (by first | omega | (simp; omega)) rfl _ rfl (by exact (World.cell?_alloc_new (wr.drewN _) #[.complex .f32 p1 p2] 31 0 : _)) rfl ?_; intro v1 w1 hr1 hb1); have hb1r : Below W2.heap.size wr w1 := Below.trans (by (repeat (first | exact Below.refl _ _ | refine Below.alloc ?_ (by simp; omega) _ | refine below_drewN ?_ _))) hb1
                      (try go_wp2_with fail)
                      refine hK14.out _ _ ?_ (fun hHeld14 => ?_)
                      · first | assumption | exact (hb1r.cell (p := ⟨w.heap.size, s, none⟩) lw2).trans cs0
                      clear hK14 K14
                      (try simp only [List.getElem_toArray, List.getElem_cons_succ, List.getElem_cons_zero, Act.put, List.setIfInBounds_toArray, List.set_cons_zero, List.set_cons_succ])
                      refine wpAnyH_take (i := 15) (v := ?_) rfl (by kernel_rfl) (by kernel_rfl) (by kernel_rfl) (fun _ _ _ h => h) (Or.inl ⟨by rfl, ?_⟩) (by assumption) ?_
                      rotate_left 1
                      (intro w hSw; (try dsimp only at hSw); go_simp; (try with_reducible rfl))
                      (try simp only [List.getElem_toArray, List.getElem_cons_succ, List.getElem_cons_zero, Act.put, List.setIfInBounds_toArray, List.set_cons_zero, List.set_cons_succ])
                      refine wpAnyH_done (by kernel_rfl) ?_ _
                      have HB1 := Lib.hid (Hbel.out.trans hb1r)
                      clear hb1 hb1r
                      go_wp2_with fail
                      go_roundw
                      case rel => exact ⟨k + 1, by omega, by go_num, by rw [show st * s + (k + 1) = (st * s + k) + 1 by omega, bps_succ, ← HEQ.out, ← cx_push]; exact hr1, HB1.out⟩
                      case measure => simp [intOf]; omega
                    exact AllReadyH.nil
                  exact AllReadyH.nil
                exact AllReadyH.nil
              exact AllReadyH.nil
            exact AllReadyH.nil
          · obtain rfl : k = st := by omega
            have HKS := Lib.hid (show k * s + k = k * (s + 1) from (Nat.mul_succ k s).symm)
            rw [HKS.out] at hrow
            go_wp2_with fail
            go_roundw
            case rel => exact ⟨s + 1, by omega, by go_num, hrow, hbel⟩
            case measure => simp [intOf]; omega
      exact AllReadyH.nil
    · obtain rfl : s = 4 := by omega
      have hsr := hbel.size
      have Hl := Lib.hid (show (cx ((List.range (st * 4)).map (bps (nc lo) (nc hi) st))).length ≤ 1099511627776 by rw [cx_length, List.length_map, List.length_range]; omega)
      have LR := Lib.hid (show (List.range (st * 4)).map (bps (nc lo) (nc hi) st) ++ [lo] = (List.range (4 * st + 1)).map (bps (nc lo) (nc hi) st) by
        rw [bps_succ, bps_last, HLO.out, show 4 * st = st * 4 by omega])
      go_upto_region 12 with (at_builtin; go_must (refine wpList_pushV (.complex .f32 0 0) 8 hrow infoC rfl rfl (by decide) rfl _ _ rfl Try.underlying25 Hl.out (by omega) rfl rfl rfl rfl rfl rfl ?_); intro v1 w1 hr1 hb1 hg1 ho1)
      have HROW := Lib.hid (show RowV 31 w1 W2.heap.size v1 (cx ((List.range (4 * st + 1)).map (bps (nc lo) (nc hi) st))) from by rw [← LR.out, ← cx_push]; exact hr1)
      have HB1 := Lib.hid (hbel.trans hb1)
      have hs1 := HB1.out.size
      clear hr1 hb1 hg1 ho1 hrow hbel LR Hl
      rcases HROW.out.rd.openC with ⟨h, _⟩ | ⟨b1, f1, cap1, rfl, hb1, hcp1, hc1⟩
      · have := congrArg List.length h
        simp at this
      have HL1 : ((List.range (4 * st + 1)).map (bps (nc lo) (nc hi) st)).length = 4 * st + 1 := by rw [List.length_map, List.length_range]
      have HC1 := Lib.hid (show ∀ i, i < 4 * st + 1 → w1.cell? ⟨b1, f1 + i, none⟩ = some (.complex .f32 ((bps (nc lo) (nc hi) st) i).1 ((bps (nc lo) (nc hi) st) i).2) from fun i hi => by
        rw [hc1 i (by rw [HL1]; exact hi)]
        simp)
      rw [HL1]
      have Hv1 := Lib.hid (Hv2.out.below HB1.out)
      have Xp1 := Lib.hid ((HB1.out.cell (p := ⟨p, 0, none⟩) lp2).trans Xp2.out)
      have AT := Lib.hid (fun i => HH.out.atp i)
      have HVF := Lib.hid (fun i => HH.out.fin i)
      have HZ := Lib.hid (fun i => (HH.out.atp i).2.2.2)
      have QI := Lib.hid (fun j (hj : j < 4 * st) w2 => show Calls Try.prog 91 #[.complex .f32 (bvs (rs.map nc) (nc lo) (nc hi) st (j + 1)).1 (bvs (rs.map nc) (nc lo) (nc hi) st (j + 1)).2, .complex .f32 (bvs (rs.map nc) (nc lo) (nc hi) st j).1 (bvs (rs.map nc) (nc lo) (nc hi) st j).2] w2 (RetX (bqt (rs.map nc) (nc lo) (nc hi) st j) w2) from by
        have := quo_spec (bvs (rs.map nc) (nc lo) (nc hi) st (j + 1)) (bvs (rs.map nc) (nc lo) (nc hi) st j) (Lib.hid (by rw [nc_fin (HH.out.fin _), nc_fin (HH.out.fin _)]; exact (HH.out.quo j hj).1)) w2
        rw [nc_fin (HH.out.fin _), nc_fin (HH.out.fin _)] at this
        exact this)
      have QK := Lib.hid (fun j (hj : j < 4 * st) => (HH.out.quo j hj).2)
      have SF := Lib.hid (show finiteN (turnS (rs.map nc) (nc lo) (nc hi) st (4 * st)) = (turnS (rs.map nc) (nc lo) (nc hi) st (4 * st), true) by unfold finiteN; rw [if_pos (by rw [finF_iff]; exact (HH.out.sum _ (Nat.le_refl _)).1)])
      have TS := Lib.hid (fun j => show turnS (rs.map nc) (nc lo) (nc hi) st (j + 1) = fop .add .f32 (turnS (rs.map nc) (nc lo) (nc hi) st j) (angF (bqt (rs.map nc) (nc lo) (nc hi) st j).2 (bqt (rs.map nc) (nc lo) (nc hi) st j).1) from rfl)
      have TZ := Lib.hid (show turnS (rs.map nc) (nc lo) (nc hi) st 0 = 0 from rfl)
      have BB := Lib.hid (B2.out.trans (HB1.out.mono (show w.heap.size ≤ W2.heap.size by omega)))
      have n0 := nrm0
      have lp1 : p < w1.heap.size := by omega
      have PA1 := Lib.hid (fun i w2 (hb : Below w1.heap.size w1 w2) => show Calls Try.prog 90 #[.agg #[.slice ao rs.length cap], .complex .f32 ((bps (nc lo) (nc hi) st) i).1 ((bps (nc lo) (nc hi) st) i).2] w2 (RetXB (bvs (rs.map nc) (nc lo) (nc hi) st i, true) w2) from by
        obtain ⟨a1, a2, a3, a4⟩ := AT.out i
        have := PA.out w2 ((bps (nc lo) (nc hi) st) i) (Hv1.out.below hb) (Lib.hid (fun _ _ => by rw [nc_fin a2]; exact a3))
        rw [nc_fin a2, a1] at this
        exact this)
      clear HL1 hc1 hcp1 HROW HB1 PA C2c Xp2 Hv2 B2 HH AT Hv1
      generalize turnS (rs.map nc) (nc lo) (nc hi) st = TT at *
      generalize bvs (rs.map nc) (nc lo) (nc hi) st = BV at *
      generalize bqt (rs.map nc) (nc lo) (nc hi) st = BQ at *
      generalize (bps (nc lo) (nc hi) st) = BP at *
      generalize hn1e : 4 * st + 1 = n1 at *
      have HNE := Lib.hid hn1e
      generalize hn4e : 4 * st = nn at *
      have HNF := Lib.hid (show n1 = nn + 1 ∧ nn ≤ 240 by omega)
      clear hn1e hn4e
      go_wp2_with fail
      go_loopw [15, 16, 76] (fun sv bv iv wr => ∃ (i x b1' b2' : Nat), i ≤ n1 ∧ iv = .int .i64 (i : Int) ∧ sv = .float .f32 x ∧ nrm .f32 x = TT (i - 1) ∧ bv = .complex .f32 b1' b2' ∧ (i = 0 ∨ (b1', b2') = BV (i - 1)) ∧ Below w1.heap.size w1 wr) (fun _ _ iv _ => nn + 2 - (intOf iv).toNat)
      case atStart => exact ⟨0, 0, 0, 0, by omega, rfl, rfl, by rw [show 0 - 1 = 0 from rfl, TZ.out]; exact n0, rfl, .inl rfl, Below.refl _ _⟩
      case round =>
        obtain ⟨i, x, b1', b2', hi, rfl, rfl, hx, rfl, hbf, hbel⟩ := hrel
        have hsz := hbel.size
        by_cases hlt : i < n1
        · have l1 : b1 < w1.heap.size := hb1
          have xp := (hbel.cell (p := ⟨p, 0, none⟩) lp1).trans Xp1.out
          have ci := (hbel.cell (p := ⟨b1, f1 + i, none⟩) l1).trans (HC1.out i hlt)
          have k0 : (0 : Int) ≤ (i : Int) := by omega
          have k1 : (i : Int) < (n1 : Int) := by omega
          have Hkey := Lib.hid (fun w2 (hb : Below wr.heap.size wr w2) => PA1.out i w2 (hbel.trans (hb.mono hsz)))
          have HX := Lib.hid hx
          have Hbel := Lib.hid hbel
          clear hx hbel PA1 HC1
          go_upto_region 17 with fail
          refine wp_region_held_drew (S := fun w' => w'.cell? ⟨p, 0, none⟩ = some (.slice ao rs.length cap) ∧ w'.cell? ⟨b1, f1 + i, none⟩ = some (.complex .f32 (BP i).1 (BP i).2)) (by kernel_rfl) (by exact ⟨xp, ci⟩) (fun hHeld => ?_)
          refine wpAnyH_take (i := 0) (v := ?_) rfl (by kernel_rfl) (by kernel_rfl) (by kernel_rfl) (fun _ _ _ h => h) (Or.inl ⟨by rfl, ?_⟩) (by assumption) ?_
          rotate_left 1
          (intro w hSw; (try dsimp only at hSw); go_simp; (try with_reducible rfl))
          (try simp only [List.getElem_toArray, List.getElem_cons_succ, List.getElem_cons_zero, Act.put, List.setIfInBounds_toArray, List.set_cons_zero, List.set_cons_succ])
          refine wpAnyH_take (i := 1) (v := ?_) rfl (by kernel_rfl) (by kernel_rfl) (by kernel_rfl) (fun _ _ _ h => h) (Or.inl ⟨by rfl, ?_⟩) (by assumption) ?_
          rotate_left 1
          (intro w hSw; (try dsimp only at hSw); go_simp; (try with_reducible rfl))
          (try simp only [List.getElem_toArray, List.getElem_cons_succ, List.getElem_cons_zero, Act.put, List.setIfInBounds_toArray, List.set_cons_zero, List.set_cons_succ])
          refine wpAnyH_take (i := 2) (v := ?_) rfl (by kernel_rfl) (by kernel_rfl) (by kernel_rfl) (fun _ _ _ h => h) (Or.inl ⟨by rfl, ?_⟩) (by assumption) ?_
          rotate_left 1
          (intro w hSw; (try dsimp only at hSw); go_simp; (try with_reducible rfl))
          (try simp only [List.getElem_toArray, List.getElem_cons_succ, List.getElem_cons_zero, Act.put, List.setIfInBounds_toArray, List.set_cons_zero, List.set_cons_succ])
          refine wpAnyH_take (i := 3) (v := ?_) rfl (by kernel_rfl) (by kernel_rfl) (by kernel_rfl) (fun _ _ _ h => h) (Or.inl ⟨by rfl, ?_⟩) (by assumption) ?_
          rotate_left 1
          (intro w hSw; (try dsimp only at hSw); go_simp; (try with_reducible rfl))
          (try simp only [List.getElem_toArray, List.getElem_cons_succ, List.getElem_cons_zero, Act.put, List.setIfInBounds_toArray, List.set_cons_zero, List.set_cons_succ])
          refine wpAnyH_take (i := 4) (v := ?_) rfl (by kernel_rfl) (by kernel_rfl) (by kernel_rfl) (fun _ _ _ h => h) (Or.inl ⟨by rfl, ?_⟩) (by assumption) ?_
          rotate_left 1
          (intro w hSw; (try dsimp only at hSw); go_simp; (try with_reducible rfl))
          (try simp only [List.getElem_toArray, List.getElem_cons_succ, List.getElem_cons_zero, Act.put, List.setIfInBounds_toArray, List.set_cons_zero, List.set_cons_succ])
          refine wpAnyH_take (i := 5) (v := ?_) rfl (by kernel_rfl) (by kernel_rfl) (by kernel_rfl) (fun _ _ _ h => h) (Or.inl ⟨by rfl, ?_⟩) (by assumption) ?_
          rotate_left 1
          (intro w hSw; (try dsimp only at hSw); go_simp; (try with_reducible rfl))
          (try simp only [List.getElem_toArray, List.getElem_cons_succ, List.getElem_cons_zero, Act.put, List.setIfInBounds_toArray, List.set_cons_zero, List.set_cons_succ])
          refine wpAnyH_take (i := 6) (v := ?_) rfl (by kernel_rfl) (by kernel_rfl) (by kernel_rfl) (fun _ _ _ h => h) (Or.inl ⟨by rfl, ?_⟩) (by assumption) ?_
          rotate_left 1
          (intro w hSw; (try dsimp only at hSw); go_simp; (try with_reducible rfl))
          (try simp only [List.getElem_toArray, List.getElem_cons_succ, List.getElem_cons_zero, Act.put, List.setIfInBounds_toArray, List.set_cons_zero, List.set_cons_succ])
          refine wpAnyH_ready (rs := [7]) (by kernel_rfl) (by simp) ?_
          refine AllReadyH.cons rfl (fun K7 hK7 => ?_) ?_
          · go_simp
            (go_at_call 90; ((with_reducible refine (Hkey.out _ (by first | exact Below.drew (Below.refl _ _) | (repeat (first | exact Below.refl _ _ | refine below_drewN ?_ _)))).mono ?_); rintro e w8 ⟨a, b, rfl, ha, hb, hb8⟩)); have hb8r : Below wr.heap.size wr w8 := Below.trans (by first | exact Below.drew (Below.refl _ _) | (repeat (first | exact Below.refl _ _ | refine below_drewN ?_ _))) hb8
            (try go_wp2_with fail)
            refine hK7.out _ _ ?_ (fun hHeld7 => ?_)
            · first | assumption | exact ⟨xp, ci⟩ | exact ⟨(hb8r.cell (p := ⟨p, 0, none⟩) (by simp only; omega)).trans xp, (hb8r.cell (p := ⟨b1, f1 + i, none⟩) (by simp only; omega)).trans ci⟩
            clear hK7 K7
            (try simp only [List.getElem_toArray, List.getElem_cons_succ, List.getElem_cons_zero, Act.put, List.setIfInBounds_toArray, List.set_cons_zero, List.set_cons_succ])
            refine wpAnyH_take (i := 8) (v := ?_) rfl (by kernel_rfl) (by kernel_rfl) (by kernel_rfl) (fun _ _ _ h => h) (Or.inl ⟨by rfl, ?_⟩) (by assumption) ?_
            rotate_left 1
            (intro w hSw; (try dsimp only at hSw); go_simp; (try with_reducible rfl))
            (try simp only [List.getElem_toArray, List.getElem_cons_succ, List.getElem_cons_zero, Act.put, List.setIfInBounds_toArray, List.set_cons_zero, List.set_cons_succ])
            refine wpAnyH_take (i := 9) (v := ?_) rfl (by kernel_rfl) (by kernel_rfl) (by kernel_rfl) (fun _ _ _ h => h) (Or.inl ⟨by rfl, ?_⟩) (by assumption) ?_
            rotate_left 1
            (intro w hSw; (try dsimp only at hSw); go_simp; (try with_reducible rfl))
            (try simp only [List.getElem_toArray, List.getElem_cons_succ, List.getElem_cons_zero, Act.put, List.setIfInBounds_toArray, List.set_cons_zero, List.set_cons_succ])
            refine wpAnyH_take (i := 10) (v := ?_) rfl (by kernel_rfl) (by kernel_rfl) (by kernel_rfl) (fun _ _ _ h => h) (Or.inl ⟨by rfl, ?_⟩) (by assumption) ?_
            rotate_left 1
            (intro w hSw; (try dsimp only at hSw); go_simp; (try with_reducible rfl))
            (try simp only [List.getElem_toArray, List.getElem_cons_succ, List.getElem_cons_zero, Act.put, List.setIfInBounds_toArray, List.set_cons_zero, List.set_cons_succ])
            refine wpAnyH_take (i := 11) (v := ?_) rfl (by kernel_rfl) (by kernel_rfl) (by kernel_rfl) (fun _ _ _ h => h) (Or.inl ⟨by rfl, ?_⟩) (by assumption) ?_
            rotate_left 1
            (intro w hSw; (try dsimp only at hSw); go_simp; (try with_reducible rfl))
            (try simp only [List.getElem_toArray, List.getElem_cons_succ, List.getElem_cons_zero, Act.put, List.setIfInBounds_toArray, List.set_cons_zero, List.set_cons_succ])
            refine wpAnyH_take (i := 12) (v := ?_) rfl (by kernel_rfl) (by kernel_rfl) (by kernel_rfl) (fun _ _ _ h => h) (Or.inl ⟨by rfl, ?_⟩) (by assumption) ?_
            rotate_left 1
            (intro w hSw; (try dsimp only at hSw); go_simp; (try with_reducible rfl))
            (try simp only [List.getElem_toArray, List.getElem_cons_succ, List.getElem_cons_zero, Act.put, List.setIfInBounds_toArray, List.set_cons_zero, List.set_cons_succ])
            refine wpAnyH_done (by kernel_rfl) ?_ _
            have HAB := Lib.hid (show nc (a, b) = BV i from Prod.ext ha hb)
            have HEQ := Lib.hid (raw_c HAB.out (HVF.out i))
            have hz2 : zeroC (nc (a, b)) = false := by rw [HAB.out]; exact HZ.out i
            have HB8 := Lib.hid (Hbel.out.trans (hb8r.mono hsz))
            have hs8 := HB8.out.size
            clear ha hb hb8 hb8r Hbel Hkey xp ci
            rcases i with _ | j
            · go_wp2_with fail
              go_roundw
              case rel => exact ⟨1, x, a, b, by omega, by go_num, rfl, HX.out, rfl, .inr HEQ.out, HB8.out⟩
              case measure => first | (simp [intOf]; done) | (simp [intOf]; omega)
            · obtain hB | hB := hbf
              · omega
              · have hB2 : (b1', b2') = BV j := hB
                have HB2 := Lib.hid (show nc (b1', b2') = BV j by rw [hB2]; exact nc_fin (HVF.out j))
                have HQ := Lib.hid (show ∀ w2, Calls Try.prog 91 #[.complex .f32 a b, .complex .f32 b1' b2'] w2 (RetX (BQ j) w2) from fun w2 => by
                  have := QI.out j (by have := HNF.out; omega) w2
                  rw [← HEQ.out, ← hB2] at this
                  exact this)
                have QKj := Lib.hid (QK.out j (by have := HNF.out; omega))
                have TSj := Lib.hid (TS.out j)
                have HX2 := Lib.hid (show nrm .f32 x = TT j from HX.out)
                have jg : (0 : Int) < (j : Int) + 1 := by omega
                have q3 : IntKind.i64.wrap ((j : Int) + 1 + 1) = ((j + 1 + 1 : Nat) : Int) := by rw [IntWalk.i64_in _ ⟨by omega, by have := HNF.out; omega⟩]; omega
                have q3' : IntKind.i64.wrap ((j : Int) + 1) = (j : Int) + 1 := IntWalk.i64_in _ ⟨by omega, by have := HNF.out; omega⟩
                clear hB hB2 QI QK TS HX HB2
                go_wp2_with (first
                  | (go_at_call 91; ((with_reducible refine (HQ.out _).mono ?_); rintro e w9 ⟨g1, g2, mg, rfl, hg1, hg2, rfl⟩; have HG := Lib.hid (show nc (g1, g2) = BQ j from Prod.ext hg1 hg2); clear hg1 hg2))
                  | (go_at_call 43; ((with_reducible refine (cfin1_spec (g1, g2) _).mono ?_); rintro e w10 ⟨mc, rfl, rfl⟩; rw [HG.out, (fC_iff _).1 QKj.out.1]))
                  | (go_at_call 92; ((with_reducible refine (angC_spec (g1, g2) _ (by rw [HG.out]; exact QKj.out.1) (by rw [HG.out]; exact QKj.out.2.1) (by rw [HG.out]; exact QKj.out.2.2)).mono ?_); rintro e w11 ⟨ra, ma, rfl, hra, rfl⟩; have HRA := Lib.hid (show nrm .f32 ra = angF (BQ j).2 (BQ j).1 by rw [hra, HG.out]); clear hra))
                  | ((with_reducible refine wpList_fop rfl .add _ _ _ _ rfl rfl .f32 _ _ rfl rfl ?_); intro r mr hr; have HR := Lib.hid (show nrm .f32 r = TT (j + 1) from by rw [hr, HX2.out, HRA.out, TSj.out]); clear hr))
                go_roundw
                case rel => exact ⟨j + 1 + 1, r, a, b, by omega, by first | rw [q3] | go_num, rfl, HR.out, rfl, .inr HEQ.out, by first | exact HB8.out | exact below_drewN HB8.out _⟩
                case measure => have := HNF.out; simp [intOf]; omega
          exact AllReadyH.nil
        · obtain rfl : i = n1 := by omega
          have k3 : ¬ ((i : Int) < (i : Int)) := by omega
          have HX := Lib.hid (show nrm .f32 x = TT nn from by rw [hx, show i - 1 = nn by have := HNF.out; omega])
          have HW := Lib.hid (BB.out.trans (hbel.mono (show w.heap.size ≤ w1.heap.size by omega)))
          clear hx hbel hbf QI QK TS HC1 PA1
          go_wp2_with fail
          (go_at_call 93; ((with_reducible refine (number1_spec x _).mono ?_); rintro e w9 ⟨a, rfl, ha, hb9⟩))
          rw [HX.out, SF.out] at *
          have Ha := Lib.hid ha
          have Hb9 := Lib.hid (HW.out.trans (hb9.mono HW.out.size))
          clear ha hb9
          go_wp2_with fail
          go_ret2
          exact ⟨_, rfl, Ha.out, Hb9.out⟩
end Go.Proofs.Ytklonahkacikbaa
