/- CommonWhole of the program. Conditions: lengths of at most 2^40. -/
import Derived.Test.YtlnjkjogedbhfaaI23
import Derived.Test.YtlnjkjogedbhfaaI26
import Derived.Deep.RegionWith
namespace Go.Proofs.Ytlnjkjogedbhfaa
open Go Go.RowKit
set_option linter.unusedSimpArgs false
set_option linter.unusedVariables false

theorem cellNe {w : World} {g k : Nat} {u : Value} (h : k ≠ g) : (w.setCell ⟨g, 0, none⟩ u).cell? ⟨k, 0, none⟩ = w.cell? ⟨k, 0, none⟩ := World.cell?_of_block (w := w) (Below.heap_setCell _ _ _ _ (by simp only; omega))
/-- Both boxes, of two valid wholes, and the result's. -/
def CI (w : World) (A B : List Int) (wr : World) : Prop :=
  ∃ aoA cA aoB cB, wr.cell? ⟨w.heap.size, 0, none⟩ = some (.slice aoA A.length cA) ∧ wr.cell? ⟨w.heap.size + 1, 0, none⟩ = some (.slice aoB B.length cB) ∧ wr.cell? ⟨w.heap.size + 1 + 1, 0, none⟩ = some (.slice none 0 0) ∧
    wr.frozen? ⟨w.heap.size, 0, none⟩ = false ∧ wr.frozen? ⟨w.heap.size + 1, 0, none⟩ = false ∧ wr.frozen? ⟨w.heap.size + 1 + 1, 0, none⟩ = false ∧
    RdO wr w.heap.size (w.heap.size + 3) (.slice aoA A.length cA) A ∧ RdO wr w.heap.size (w.heap.size + 3) (.slice aoB B.length cB) B ∧ Vld A ∧ Vld B ∧ Below w.heap.size w wr
theorem CI.below {w wr w' : World} {A B : List Int} (h : CI w A B wr) (hb : Below wr.heap.size wr w') : CI w A B w' := by
  obtain ⟨aoA, cA, aoB, cB, x0, x1, x2, y0, y1, y2, hA, hB, vA, vB, hw⟩ := h
  have s0 := World.block_lt_of_cell? _ _ x0
  have s1 := World.block_lt_of_cell? _ _ x1
  have s2 := World.block_lt_of_cell? _ _ x2
  exact ⟨aoA, cA, aoB, cB, (hb.cell s0).trans x0, (hb.cell s1).trans x1, (hb.cell s2).trans x2, (hb.frozen s0).trans y0, (hb.frozen s1).trans y1, (hb.frozen s2).trans y2, hA.below hb, hB.below hb, vA, vB, hw.trans (hb.mono hw.size)⟩
theorem CI.size {w wr : World} {A B : List Int} (h : CI w A B wr) : w.heap.size < wr.heap.size ∧ w.heap.size + 1 < wr.heap.size ∧ w.heap.size + 1 + 1 < wr.heap.size := by
  obtain ⟨aoA, cA, aoB, cB, x0, x1, x2, _⟩ := h
  exact ⟨World.block_lt_of_cell? _ _ x0, World.block_lt_of_cell? _ _ x1, World.block_lt_of_cell? _ _ x2⟩
/-- Both boxes are written anew. -/
theorem CI.put {w wr : World} {A B A' B' : List Int} {p q : Option Addr} {n m : Nat} (h : CI w A B wr) (hA : RdO wr w.heap.size (w.heap.size + 3) (.slice p A'.length n) A') (hB : RdO wr w.heap.size (w.heap.size + 3) (.slice q B'.length m) B') (vA : Vld A') (vB : Vld B') :
    CI w A' B' ((wr.setCell ⟨w.heap.size, 0, none⟩ (.slice p A'.length n)).setCell ⟨w.heap.size + 1, 0, none⟩ (.slice q B'.length m)) := by
  obtain ⟨aoA, cA, aoB, cB, x0, x1, x2, y0, y1, y2, _, _, _, _, hw⟩ := h
  refine ⟨p, n, q, m, ?_, ?_, ?_, ?_, ?_, ?_, (hA.setCell (by simp) (by simp) _).setCell (by simp) (by simp) _, (hB.setCell (by simp) (by simp) _).setCell (by simp) (by simp) _, vA, vB, Below.setCell (Below.setCell hw (by simp only; omega) _) (by simp only; omega) _⟩
  · rw [cellNe (by omega)]; exact World.cell?_setCell_same _ _ _ x0
  · exact World.cell?_setCell_same _ _ _ (by rw [cellNe (by omega)]; exact x1)
  · rw [cellNe (by omega), cellNe (by omega)]; exact x2
  · rw [World.frozen?_setCell, World.frozen?_setCell]; exact y0
  · rw [World.frozen?_setCell, World.frozen?_setCell]; exact y1
  · rw [World.frozen?_setCell, World.frozen?_setCell]; exact y2

set_option maxRecDepth 100000 in
set_option maxHeartbeats 4000000 in
theorem CommonWhole_impl (va vb : Value) (a b : List Int) (w : World) (ha : RdI w va a) (hb : RdI w vb b) (hla : a.length ≤ 1099511627775) (hlb : b.length ≤ 1099511627775) : Calls Try.prog 41 #[.agg #[va], .agg #[vb]] w (RWB (commonW a b) w) := by
  have Ha := Lib.hid ha
  have Hb := Lib.hid hb
  obtain ⟨aoa, ca, rfl⟩ := ha.shape
  obtain ⟨aob, cb, rfl⟩ := hb.shape
  clear ha hb
  cases hqa : validB a
  · have Ho := Lib.hid (commonW_no (a := a) (b := b) (by rw [hqa]; rfl))
    go_enter Try.func41, Try.ntmps41
    go_wp2_with fail
    (go_at_call 24; ((with_reducible refine (valid_impl _ a _ (Ha.out.below (by (repeat' (first | (with_reducible exact Below.refl _ _) | (with_reducible assumption) | (with_reducible refine Below.alloc ?_ ?_ _) | (with_reducible refine Below.setCell ?_ ?_ _) | (with_reducible refine Below.drew ?_) | (with_reducible refine Below.via (by assumption) ?_ ?_) | go_size)))) (by omega)).mono ?_); rintro e w1 ⟨rfl, hb1⟩))
    obtain ⟨c1, f1⟩ := bcell hb1
    have z1 := hb1.size
    simp only [World.size_alloc] at z1
    have l2 : w.heap.size + 1 + 1 < w1.heap.size := by omega
    go_wp2_with fail
    (try simp only [Exit.inBlock, Exit.then]); refine bodyPost_ret (by simp [results, Try.results41, go_sem, *]; try rfl) rfl ?_
    rw [Ho.out]
    exact ⟨_, rfl, OwI.nil _ _, by (repeat' (first | (with_reducible exact Below.refl _ _) | (with_reducible assumption) | (with_reducible refine Below.alloc ?_ ?_ _) | (with_reducible refine Below.setCell ?_ ?_ _) | (with_reducible refine Below.drew ?_) | (with_reducible refine Below.via (by assumption) ?_ ?_) | go_size))⟩
  cases hqb : validB b
  · have Ho := Lib.hid (commonW_no (a := a) (b := b) (by rw [hqa, hqb]; rfl))
    go_enter Try.func41, Try.ntmps41
    go_wp2_with fail
    (go_at_call 24; ((with_reducible refine (valid_impl _ a _ (Ha.out.below (by (repeat' (first | (with_reducible exact Below.refl _ _) | (with_reducible assumption) | (with_reducible refine Below.alloc ?_ ?_ _) | (with_reducible refine Below.setCell ?_ ?_ _) | (with_reducible refine Below.drew ?_) | (with_reducible refine Below.via (by assumption) ?_ ?_) | go_size)))) (by omega)).mono ?_); rintro e w1 ⟨rfl, hb1⟩))
    obtain ⟨c1, f1⟩ := bcell hb1
    have z1 := hb1.size
    simp only [World.size_alloc] at z1
    have l0 : w.heap.size < w1.heap.size := by omega
    have l1 : w.heap.size + 1 < w1.heap.size := by omega
    have l2 : w.heap.size + 1 + 1 < w1.heap.size := by omega
    go_wp2_with fail
    (go_at_call 24; ((with_reducible refine (valid_impl _ b _ (Hb.out.below (by (repeat' (first | (with_reducible exact Below.refl _ _) | (with_reducible assumption) | (with_reducible refine Below.alloc ?_ ?_ _) | (with_reducible refine Below.setCell ?_ ?_ _) | (with_reducible refine Below.drew ?_) | (with_reducible refine Below.via (by assumption) ?_ ?_) | go_size)))) (by omega)).mono ?_); rintro e w2 ⟨rfl, hb2⟩))
    obtain ⟨c2, f2⟩ := bcell hb2
    have z2 := hb2.size
    have m2 : w.heap.size + 1 + 1 < w2.heap.size := by omega
    go_wp2_with fail
    (try simp only [Exit.inBlock, Exit.then]); refine bodyPost_ret (by simp [results, Try.results41, go_sem, *]; try rfl) rfl ?_
    rw [Ho.out]
    exact ⟨_, rfl, OwI.nil _ _, by (repeat' (first | (with_reducible exact Below.refl _ _) | (with_reducible assumption) | (with_reducible refine Below.alloc ?_ ?_ _) | (with_reducible refine Below.setCell ?_ ?_ _) | (with_reducible refine Below.drew ?_) | (with_reducible refine Below.via (by assumption) ?_ ?_) | go_size))⟩
  have Ho := Lib.hid (commonW_eq (a := a) (b := b) (by rw [hqa, hqb]; rfl))
  have hva := validB_iff.1 hqa
  have hvb := validB_iff.1 hqb
  have Hva := Lib.hid hva
  have Hvb := Lib.hid hvb
  have Hqa := Lib.hid hqa
  have Hqb := Lib.hid hqb
  have HL := Lib.hid (fun g => greatZ_len (g := g) hva hvb)
  have hla1 := hva.len
  have hlb1 := hvb.len
  have hca := contZ_bd hva
  have hcb := contZ_bd hvb
  have hgc : 0 ≤ gcZ (contZ a) (contZ b) ∧ gcZ (contZ a) (contZ b) ≤ 1000000 := ⟨gcZ_nonneg _ _, gcZ_le (by omega) (by omega)⟩
  clear hva hvb
  go_enter Try.func41, Try.ntmps41
  go_wp2_with fail
  (go_at_call 24; ((with_reducible refine (valid_impl _ a _ (Ha.out.below (by (repeat' (first | (with_reducible exact Below.refl _ _) | (with_reducible assumption) | (with_reducible refine Below.alloc ?_ ?_ _) | (with_reducible refine Below.setCell ?_ ?_ _) | (with_reducible refine Below.drew ?_) | (with_reducible refine Below.via (by assumption) ?_ ?_) | go_size)))) (by omega)).mono ?_); rintro e w1 ⟨rfl, hb1⟩))
  obtain ⟨c1, f1⟩ := bcell hb1
  have z1 := hb1.size
  simp only [World.size_alloc] at z1
  have l0 : w.heap.size < w1.heap.size := by omega
  have l1 : w.heap.size + 1 < w1.heap.size := by omega
  have l2 : w.heap.size + 1 + 1 < w1.heap.size := by omega
  go_wp2_with fail
  (go_at_call 24; ((with_reducible refine (valid_impl _ b _ (Hb.out.below (by (repeat' (first | (with_reducible exact Below.refl _ _) | (with_reducible assumption) | (with_reducible refine Below.alloc ?_ ?_ _) | (with_reducible refine Below.setCell ?_ ?_ _) | (with_reducible refine Below.drew ?_) | (with_reducible refine Below.via (by assumption) ?_ ?_) | go_size)))) (by omega)).mono ?_); rintro e w2 ⟨rfl, hb2⟩))
  have HC := Lib.hid (show CI w a b w2 from
    CI.below (wr := w1) (CI.below (wr := ((w.alloc (.cells #[.slice aoa a.length ca] 27)).alloc (.cells #[.slice aob b.length cb] 27)).alloc (.cells #[.slice none 0 0] 27))
      ⟨aoa, ca, aob, cb, by go_simp, by go_simp, by go_simp, by go_simp, by go_simp, by go_simp, RdO.ofOld Ha.out Hva.out.ne (by (repeat' (first | (with_reducible exact Below.refl _ _) | (with_reducible assumption) | (with_reducible refine Below.alloc ?_ ?_ _) | (with_reducible refine Below.setCell ?_ ?_ _) | (with_reducible refine Below.drew ?_) | (with_reducible refine Below.via (by assumption) ?_ ?_) | go_size))) (Nat.le_refl _), RdO.ofOld Hb.out Hvb.out.ne (by (repeat' (first | (with_reducible exact Below.refl _ _) | (with_reducible assumption) | (with_reducible refine Below.alloc ?_ ?_ _) | (with_reducible refine Below.setCell ?_ ?_ _) | (with_reducible refine Below.drew ?_) | (with_reducible refine Below.via (by assumption) ?_ ?_) | go_size))) (Nat.le_refl _), Hva.out, Hvb.out, by (repeat' (first | (with_reducible exact Below.refl _ _) | (with_reducible assumption) | (with_reducible refine Below.alloc ?_ ?_ _) | (with_reducible refine Below.setCell ?_ ?_ _) | (with_reducible refine Below.drew ?_) | (with_reducible refine Below.via (by assumption) ?_ ?_) | go_size))⟩ hb1) hb2)
  go_upto_region 3 with fail
  clear c1 f1 hb1 hb2 hqa hqb l0 l1 l2 z1
  obtain ⟨aoA, cA, aoB, cB, x0, x1, x2, y0, y1, _, hA, hB, _, _, _⟩ := HC.out
  have HA := Lib.hid hA
  have HB := Lib.hid hB
  have s0 := World.block_lt_of_cell? _ _ x0
  have s1 := World.block_lt_of_cell? _ _ x1
  simp only at s0 s1
  clear hA hB
  clear s0 s1
  have s0 := World.block_lt_of_cell? _ _ x0
  have s1 := World.block_lt_of_cell? _ _ x1
  simp only at s0 s1
  go_region_held3 (fun w' => w'.cell? ⟨w.heap.size, 0, none⟩ = some (.slice aoA a.length cA) ∧ w'.cell? ⟨w.heap.size + 1, 0, none⟩ = some (.slice aoB b.length cB))
    (((try dsimp only); (try go_split_ands); refine ⟨?_, ?_⟩ <;> (first | assumption  | (rw [d3.cell (by first | omega | (simp <;> omega))]; assumption) | (rw [d2.cell (by first | omega | (simp <;> omega))]; assumption) | (rw [d1.cell (by first | omega | (simp <;> omega))]; assumption) | (refine (((Below.refl _ _).alloc (Nat.le_refl _) _).cell (by first | omega | (simp <;> omega))).trans (by assumption)) | (go_keep; done))))
    (first
      | (go_at_call 101; ((with_reducible refine (content_impl _ a _ ((HA.out.below (by (repeat' (first | (with_reducible exact Below.refl _ _) | (with_reducible assumption) | (with_reducible refine Below.alloc ?_ ?_ _) | (with_reducible refine Below.setCell ?_ ?_ _) | (with_reducible refine Below.drew ?_) | (with_reducible refine Below.via (by assumption) ?_ ?_) | go_size)))).rd) (by omega) Hva.out.bd).mono ?_); rintro e w3 ⟨rfl, d1⟩; have zd1 := d1.size; (try simp only [World.size_alloc, World.size_drew, World.size_setCell] at zd1)))
      | (go_at_call 101; ((with_reducible refine (content_impl _ b _ ((HB.out.below (by (repeat' (first | (with_reducible exact Below.refl _ _) | (with_reducible assumption) | (with_reducible refine Below.alloc ?_ ?_ _) | (with_reducible refine Below.setCell ?_ ?_ _) | (with_reducible refine Below.drew ?_) | (with_reducible refine Below.via (by assumption) ?_ ?_) | go_size)))).rd) (by omega) Hvb.out.bd).mono ?_); rintro e w4 ⟨rfl, d2⟩; have zd2 := d2.size; (try simp only [World.size_alloc, World.size_drew, World.size_setCell] at zd2)))
      | (go_at_call 111; ((with_reducible refine (gcd_impl _ _ _ ⟨by omega, by omega⟩ ⟨by omega, by omega⟩).mono ?_); rintro e w5 ⟨rfl, d3⟩; have zd3 := d3.size; (try simp only [World.size_alloc, World.size_drew, World.size_setCell] at zd3))))
  have B5 := (show Below w2.heap.size w2 w5 by (repeat' (first | (with_reducible exact Below.refl _ _) | (with_reducible assumption) | (with_reducible refine Below.alloc ?_ ?_ _) | (with_reducible refine Below.setCell ?_ ?_ _) | (with_reducible refine Below.drew ?_) | (with_reducible refine Below.via (by assumption) ?_ ?_) | go_size)))
  have HC5 := Lib.hid (HC.out.below B5)
  replace x0 := (B5.cell (p := ⟨w.heap.size, 0, none⟩) s0).trans x0
  replace x1 := (B5.cell (p := ⟨w.heap.size + 1, 0, none⟩) s1).trans x1
  replace y0 := (B5.frozen (p := ⟨w.heap.size, 0, none⟩) s0).trans y0
  replace y1 := (B5.frozen (p := ⟨w.heap.size + 1, 0, none⟩) s1).trans y1
  replace HA := Lib.hid (HA.out.below B5)
  replace HB := Lib.hid (HB.out.below B5)
  clear s0 s1 x2
  have s0 := World.block_lt_of_cell? _ _ x0
  have s1 := World.block_lt_of_cell? _ _ x1
  have s2 := HC5.out.size.2.2
  simp only at s0 s1
  clear B5 d1 d2 d3 zd1 zd2 zd3 HC
  have HN := Lib.hid (greatZ_none (a := a) (b := b))
  have HS := Lib.hid (fun g => greatZ_some (a := a) (b := b) (g := g))
  generalize gcZ (contZ a) (contZ b) = c at *
  go_upto_region 4 with fail
  go_cut [6] (fun s6 wx => s6 = .int .i64 c ∧ CI w (primZ a) (primZ b) wx)
  case first =>
    go_region_with (first
      | (go_at_call 102; ((with_reducible refine (prim_impl _ a _ ((HA.out.below (by (repeat' (first | (with_reducible exact Below.refl _ _) | (with_reducible assumption) | (with_reducible refine Below.alloc ?_ ?_ _) | (with_reducible refine Below.setCell ?_ ?_ _) | (with_reducible refine Below.drew ?_) | (with_reducible refine Below.via (by assumption) ?_ ?_) | go_size)))).rd) Hva.out.ne (by omega) Hva.out.bd).mono ?_); rintro e w6 ⟨v6, rfl, o6, d6⟩; obtain ⟨p6, n6, rfl⟩ := o6.rd.shape; (have Be := (show Below w5.heap.size w5 w6 by (repeat' (first | (with_reducible exact Below.refl _ _) | (with_reducible assumption) | (with_reducible refine Below.alloc ?_ ?_ _) | (with_reducible refine Below.setCell ?_ ?_ _) | (with_reducible refine Below.drew ?_) | (with_reducible refine Below.via (by assumption) ?_ ?_) | go_size)))); (have ze := Be.size); (have ex0 := (Be.cell (p := ⟨w.heap.size, 0, none⟩) s0).trans x0); (have ex1 := (Be.cell (p := ⟨w.heap.size + 1, 0, none⟩) s1).trans x1); (have ey0 := (Be.frozen (p := ⟨w.heap.size, 0, none⟩) s0).trans y0); (have ey1 := (Be.frozen (p := ⟨w.heap.size + 1, 0, none⟩) s1).trans y1)))
      | (go_at_call 102; ((with_reducible refine (prim_impl _ b _ ((HB.out.below (by (repeat' (first | (with_reducible exact Below.refl _ _) | (with_reducible assumption) | (with_reducible refine Below.alloc ?_ ?_ _) | (with_reducible refine Below.setCell ?_ ?_ _) | (with_reducible refine Below.drew ?_) | (with_reducible refine Below.via (by assumption) ?_ ?_) | go_size)))).rd) Hvb.out.ne (by omega) Hvb.out.bd).mono ?_); rintro e w7 ⟨v7, rfl, o7, d7⟩; obtain ⟨p7, n7, rfl⟩ := o7.rd.shape; (have Bg := (show Below w5.heap.size w5 w7 by (repeat' (first | (with_reducible exact Below.refl _ _) | (with_reducible assumption) | (with_reducible refine Below.alloc ?_ ?_ _) | (with_reducible refine Below.setCell ?_ ?_ _) | (with_reducible refine Below.drew ?_) | (with_reducible refine Below.via (by assumption) ?_ ?_) | go_size)))); (have zg := Bg.size); (have gx0 := (Bg.cell (p := ⟨w.heap.size, 0, none⟩) s0).trans x0); (have gx1 := (Bg.cell (p := ⟨w.heap.size + 1, 0, none⟩) s1).trans x1); (have gy0 := (Bg.frozen (p := ⟨w.heap.size, 0, none⟩) s0).trans y0); (have gy1 := (Bg.frozen (p := ⟨w.heap.size + 1, 0, none⟩) s1).trans y1))))
    all_goals
      go_wp2_with fail
      go_meet
      exact ⟨rfl, (HC5.out.below Bg).put (RdO.ofOwn (o6.below d7) (by simp only [World.size_drew]; omega)) (RdO.ofOwn o7 (by omega)) (prim_vld Hva.out) (prim_vld Hvb.out)⟩
  case rest =>
    obtain ⟨rfl, hC⟩ := hcut
    have HC := Lib.hid hC
    have HvA0 := Lib.hid (prim_vld Hva.out)
    have HvB0 := Lib.hid (prim_vld Hvb.out)
    have hl1 := HvA0.out.len
    have hl2 := HvB0.out.len
    clear hC x0 x1 y0 y1 s0 s1 s2 HA HB HC5 Hva Hvb hla1 hlb1 hca hcb
    generalize primZ a = A0 at *
    generalize primZ b = B0 at *
    generalize greatZ a b = R at *
    go_upto_region 5 with fail
    go_cut [40] (fun s40 wx => s40 = .bool (decide (A0.length < B0.length) || zeroB A0) ∧ CI w A0 B0 wx)
    case first =>
      obtain ⟨aoA, cA, aoB, cB, x0, x1, x2, y0, y1, y2, hA, hB, _, _, hbw⟩ := HC.out
      have HA := Lib.hid hA
      have HB := Lib.hid hB
      have Hbw := Lib.hid hbw
      have s0 := World.block_lt_of_cell? _ _ x0
      have s1 := World.block_lt_of_cell? _ _ x1
      have s2 := World.block_lt_of_cell? _ _ x2
      have sw := hbw.size
      simp only at s0 s1 s2
      clear hA hB hbw
      by_cases hlt : A0.length < B0.length
      · go_region_with (first
          | (go_at_call 79; ((with_reducible refine (degree_exact aoA A0.length cA _ (by omega)).mono ?_); rintro e w' ⟨rfl, rfl⟩))
          | (go_at_call 79; ((with_reducible refine (degree_exact aoB B0.length cB _ (by omega)).mono ?_); rintro e w' ⟨rfl, rfl⟩)))
        all_goals
          go_wp2_with fail
          go_meet
          exact ⟨by simp [hlt], HC.out.below (by (repeat' (first | (with_reducible exact Below.refl _ _) | (with_reducible assumption) | (with_reducible refine Below.alloc ?_ ?_ _) | (with_reducible refine Below.setCell ?_ ?_ _) | (with_reducible refine Below.drew ?_) | (with_reducible refine Below.via (by assumption) ?_ ?_) | go_size)))⟩
      · have hlt2 : ¬ ((A0.length : Int) - 1 < (B0.length : Int) - 1) := by omega
        go_region_held3 (fun w' => w'.cell? ⟨w.heap.size, 0, none⟩ = some (.slice aoA A0.length cA) ∧ w'.cell? ⟨w.heap.size + 1, 0, none⟩ = some (.slice aoB B0.length cB))
          (((try dsimp only); (try go_split_ands); refine ⟨?_, ?_⟩ <;> (first | assumption  | (rw [d8.cell (by first | omega | (simp <;> omega))]; assumption) | (refine (((Below.refl _ _).alloc (Nat.le_refl _) _).cell (by first | omega | (simp <;> omega))).trans (by assumption)) | (go_keep; done))))
          (first
            | (go_at_call 79; ((with_reducible refine (degree_exact aoA A0.length cA _ (by omega)).mono ?_); rintro e w' ⟨rfl, rfl⟩))
            | (go_at_call 79; ((with_reducible refine (degree_exact aoB B0.length cB _ (by omega)).mono ?_); rintro e w' ⟨rfl, rfl⟩))
            | (go_at_call 93; ((with_reducible refine (noWhole_impl _ A0 _ ((HA.out.below (by (repeat' (first | (with_reducible exact Below.refl _ _) | (with_reducible assumption) | (with_reducible refine Below.alloc ?_ ?_ _) | (with_reducible refine Below.setCell ?_ ?_ _) | (with_reducible refine Below.drew ?_) | (with_reducible refine Below.via (by assumption) ?_ ?_) | go_size)))).rd) (by omega)).mono ?_); rintro e w8 ⟨rfl, d8⟩; have zd8 := d8.size; (try simp only [World.size_alloc, World.size_drew, World.size_setCell] at zd8))))
        all_goals
          go_wp2_with fail
          go_meet
          exact ⟨by simp [hlt], HC.out.below (by (repeat' (first | (with_reducible exact Below.refl _ _) | (with_reducible assumption) | (with_reducible refine Below.alloc ?_ ?_ _) | (with_reducible refine Below.setCell ?_ ?_ _) | (with_reducible refine Below.drew ?_) | (with_reducible refine Below.via (by assumption) ?_ ?_) | go_size)))⟩
    case rest =>
      obtain ⟨rfl, hC⟩ := hcut
      have HC := Lib.hid hC
      clear hC
      go_upto_if 40 with fail
      go_cut [6] (fun s6 wx => s6 = .int .i64 c ∧ ∃ A B, pairZ A0 B0 = (A, B) ∧ CI w A B wx)
      case first =>
        obtain ⟨aoA, cA, aoB, cB, x0, x1, x2, y0, y1, y2, hA, hB, hvA, hvB, hbw⟩ := HC.out
        have HA := Lib.hid hA
        have HB := Lib.hid hB
        have HvA := Lib.hid hvA
        have HvB := Lib.hid hvB
        have Hbw := Lib.hid hbw
        have s0 := World.block_lt_of_cell? _ _ x0
        have s1 := World.block_lt_of_cell? _ _ x1
        have s2 := World.block_lt_of_cell? _ _ x2
        have sw := hbw.size
        simp only at s0 s1 s2
        clear hA hB hbw hvA hvB
        cases hq : (decide (A0.length < B0.length) || zeroB A0)
        · go_wp2_with fail
          go_meet
          refine ⟨rfl, A0, B0, ?_, HC.out⟩
          simp only [Bool.or_eq_false_iff, decide_eq_false_iff_not] at hq
          rw [pairZ, if_neg (by rintro (h | h); exact hq.1 h; rw [hq.2] at h; cases h)]
        · go_wp2_with fail
          go_meet
          refine ⟨rfl, B0, A0, ?_, HC.out.put HB.out HA.out HvB.out HvA.out⟩
          simp only [Bool.or_eq_true, decide_eq_true_eq] at hq
          rw [pairZ, if_pos hq]
      case rest =>
        obtain ⟨rfl, A, B, hpr, hC⟩ := hcut
        have HC := Lib.hid hC
        have HN2 := Lib.hid (show gcdW A B = none → R = none by have h := HN.out; rw [hpr] at h; exact h)
        have HS2 := Lib.hid (show ∀ g, gcdW A B = some g → R = some (timesZ c g) by have h := HS.out; rw [hpr] at h; exact h)
        clear hC hpr HN HS HvA0 HvB0 hl1 hl2
        go_wp2_with fail
        go_loopg [8] (meas B) (fun g u wr => ∃ A' B', CI w A' B' wr ∧ gcdW A' B' = gcdW A B ∧ meas B' = g)
        case atStart => exact ⟨A, B, HC.out, rfl, rfl⟩
        case round =>
          generalize gcdW A B = G at *
          clear HC
          obtain ⟨A, B, hC, hgc2, hme⟩ := hrel
          have HC := Lib.hid hC
          have Hgc := Lib.hid hgc2
          have Hme := Lib.hid hme
          clear hC hgc2 hme
          obtain ⟨aoA, cA, aoB, cB, x0, x1, x2, y0, y1, y2, hA, hB, hvA, hvB, hbw⟩ := HC.out
          have HA := Lib.hid hA
          have HB := Lib.hid hB
          have HvA := Lib.hid hvA
          have HvB := Lib.hid hvB
          have Hbw := Lib.hid hbw
          have s0 := World.block_lt_of_cell? _ _ x0
          have s1 := World.block_lt_of_cell? _ _ x1
          have s2 := World.block_lt_of_cell? _ _ x2
          have sw := hbw.size
          simp only at s0 s1 s2
          clear hA hB hbw hvA hvB
          have hl3 := HvA.out.len
          have hl4 := HvB.out.len
          cases hz : zeroB B
          · have Hz := Lib.hid hz
            go_wp2_with fail
            (go_at_call 93; ((with_reducible refine (noWhole_impl _ B _ HB.out.rd (by omega)).mono ?_); rintro e w10 ⟨rfl, d10⟩))
            replace x0 := (d10.cell (p := ⟨w.heap.size, 0, none⟩) s0).trans x0
            replace x1 := (d10.cell (p := ⟨w.heap.size + 1, 0, none⟩) s1).trans x1
            replace x2 := (d10.cell (p := ⟨w.heap.size + 1 + 1, 0, none⟩) s2).trans x2
            replace y0 := (d10.frozen (p := ⟨w.heap.size, 0, none⟩) s0).trans y0
            replace y1 := (d10.frozen (p := ⟨w.heap.size + 1, 0, none⟩) s1).trans y1
            replace y2 := (d10.frozen (p := ⟨w.heap.size + 1 + 1, 0, none⟩) s2).trans y2
            replace s0 := World.block_lt_of_cell? _ _ x0
            replace s1 := World.block_lt_of_cell? _ _ x1
            replace s2 := World.block_lt_of_cell? _ _ x2
            simp only at s0 s1 s2
            replace HA := Lib.hid (HA.out.below d10)
            replace HB := Lib.hid (HB.out.below d10)
            replace Hbw := Lib.hid (Hbw.out.trans (d10.mono (by omega)))
            have zd10 := d10.size
            clear d10
            go_wp2_with fail
            clear hz
            (go_at_call 112; ((with_reducible refine (rest_walk _ _ A B _ HA.out.rd HB.out.rd HvA.out HvB.out).mono ?_); rintro e w11 ⟨v11, rfl, r11, d11⟩))
            replace x0 := (d11.cell (p := ⟨w.heap.size, 0, none⟩) s0).trans x0
            replace x1 := (d11.cell (p := ⟨w.heap.size + 1, 0, none⟩) s1).trans x1
            replace x2 := (d11.cell (p := ⟨w.heap.size + 1 + 1, 0, none⟩) s2).trans x2
            replace y0 := (d11.frozen (p := ⟨w.heap.size, 0, none⟩) s0).trans y0
            replace y1 := (d11.frozen (p := ⟨w.heap.size + 1, 0, none⟩) s1).trans y1
            replace y2 := (d11.frozen (p := ⟨w.heap.size + 1 + 1, 0, none⟩) s2).trans y2
            replace s0 := World.block_lt_of_cell? _ _ x0
            replace s1 := World.block_lt_of_cell? _ _ x1
            replace s2 := World.block_lt_of_cell? _ _ x2
            simp only at s0 s1 s2
            replace HA := Lib.hid (HA.out.below d11)
            replace HB := Lib.hid (HB.out.below d11)
            replace Hbw := Lib.hid (Hbw.out.trans (d11.mono (by omega)))
            have zd11 := d11.size
            clear d11
            obtain ⟨p4, n4, rfl⟩ := r11.shape
            cases hre : restZ A B with
            | none =>
              have Hf := Lib.hid (HN2.out (by rw [← Hgc.out]; exact gcdW_none Hz.out hre))
              have t2 : w.heap.size + 1 + 1 < w11.heap.size + 1 := by omega
              simp only [hre, Option.isSome_none, Option.getD_none, List.length_nil] at *
              go_wp2_with fail
              (try simp only [Exit.inBlock, Exit.then]); refine bodyPost_ret (by simp [results, Try.results41, go_sem, *]; try rfl) rfl ?_
              rw [Ho.out, Hf.out]
              exact ⟨_, rfl, OwI.nil _ _, by have h := Hbw.out; (repeat' (first | (with_reducible exact Below.refl _ _) | (with_reducible assumption) | (with_reducible refine Below.alloc ?_ ?_ _) | (with_reducible refine Below.setCell ?_ ?_ _) | (with_reducible refine Below.drew ?_) | (with_reducible refine Below.via (by assumption) ?_ ?_) | go_size))⟩
            | some r =>
              have hvr := (restZ_vld HvB.out.ne (Nat.lt_succ_self _) HvA.out hre)
              have Hgo := Lib.hid (show gcdW B (primZ r) = G by rw [← gcdW_go HvA.out HvB.out Hz.out hre]; exact Hgc.out)
              have Hvr := Lib.hid hvr
              have hl5 := hvr.1.len
              have Hr4 := Lib.hid (show RdI w11 (.slice p4 ((some r).getD []).length n4) r by have h := r11; rw [hre] at h; exact h)
              clear hvr r11
              simp only [hre, Option.isSome_some, Option.getD_some] at *
              go_upto_region 11 with fail
              generalize hw12 : w11.alloc _ = w12
              have d12 : Below w11.heap.size w11 w12 := by rw [← hw12]; (repeat' (first | (with_reducible exact Below.refl _ _) | (with_reducible assumption) | (with_reducible refine Below.alloc ?_ ?_ _) | (with_reducible refine Below.setCell ?_ ?_ _) | (with_reducible refine Below.drew ?_) | (with_reducible refine Below.via (by assumption) ?_ ?_) | go_size))
              have x7 : w12.cell? ⟨w11.heap.size, 0, none⟩ = some (.slice p4 r.length n4) := by rw [← hw12]; exact (World.cell?_alloc_new w11 _ _ 0 : _)
              replace Hr4 := Lib.hid (show RdI w12 (.slice p4 r.length n4) r from Hr4.out.below d12)
              clear hw12
              replace x0 := (d12.cell (p := ⟨w.heap.size, 0, none⟩) s0).trans x0
              replace x1 := (d12.cell (p := ⟨w.heap.size + 1, 0, none⟩) s1).trans x1
              replace x2 := (d12.cell (p := ⟨w.heap.size + 1 + 1, 0, none⟩) s2).trans x2
              replace y0 := (d12.frozen (p := ⟨w.heap.size, 0, none⟩) s0).trans y0
              replace y1 := (d12.frozen (p := ⟨w.heap.size + 1, 0, none⟩) s1).trans y1
              replace y2 := (d12.frozen (p := ⟨w.heap.size + 1 + 1, 0, none⟩) s2).trans y2
              replace s0 := World.block_lt_of_cell? _ _ x0
              replace s1 := World.block_lt_of_cell? _ _ x1
              replace s2 := World.block_lt_of_cell? _ _ x2
              simp only at s0 s1 s2
              replace HA := Lib.hid (HA.out.below d12)
              replace HB := Lib.hid (HB.out.below d12)
              replace Hbw := Lib.hid (Hbw.out.trans (d12.mono (by omega)))
              have zd12 := d12.size
              clear d12
              have HC12 := Lib.hid (show CI w A B w12 from ⟨_, _, _, _, x0, x1, x2, y0, y1, y2, HA.out, HB.out, HvA.out, HvB.out, Hbw.out⟩)
              go_region_with (go_at_call 102; ((with_reducible refine (prim_impl _ r _ (Hr4.out.below (by (repeat' (first | (with_reducible exact Below.refl _ _) | (with_reducible assumption) | (with_reducible refine Below.alloc ?_ ?_ _) | (with_reducible refine Below.setCell ?_ ?_ _) | (with_reducible refine Below.drew ?_) | (with_reducible refine Below.via (by assumption) ?_ ?_) | go_size)))) Hvr.out.1.ne (by omega) Hvr.out.1.bd).mono ?_); rintro e w13 ⟨v13, rfl, o13, d13⟩; obtain ⟨p13, n13, rfl⟩ := o13.rd.shape; (have Be := (show Below w12.heap.size w12 w13 by (repeat' (first | (with_reducible exact Below.refl _ _) | (with_reducible assumption) | (with_reducible refine Below.alloc ?_ ?_ _) | (with_reducible refine Below.setCell ?_ ?_ _) | (with_reducible refine Below.drew ?_) | (with_reducible refine Below.via (by assumption) ?_ ?_) | go_size)))); (have ze := Be.size); (have ex0 := (Be.cell (p := ⟨w.heap.size, 0, none⟩) s0).trans x0); (have ex1 := (Be.cell (p := ⟨w.heap.size + 1, 0, none⟩) s1).trans x1); (have ey0 := (Be.frozen (p := ⟨w.heap.size, 0, none⟩) s0).trans y0); (have ey1 := (Be.frozen (p := ⟨w.heap.size + 1, 0, none⟩) s1).trans y1)))
              all_goals
                go_wp2_with fail
                go_roundg (meas (primZ r))
                case measure => rw [← Hme.out]; exact (prim_meas Hz.out Hvr.out.1.trd Hvr.out.2).resolve_right HvB.out.ne
                case rel => exact ⟨B, primZ r, (HC12.out.below Be).put (HB.out.below Be) (RdO.ofOwn o13 (by first | omega | (simp only [World.size_drew]; omega))) HvB.out (prim_vld Hvr.out.1), Hgo.out, rfl⟩
          · have Hd0 := Lib.hid (HS2.out A (by rw [← Hgc.out]; exact gcdW_stop hz))
            have hnA := HvA.out.ne
            go_wp2_with fail
            (go_at_call 93; ((with_reducible refine (noWhole_impl _ B _ HB.out.rd (by omega)).mono ?_); rintro e w10 ⟨rfl, d10⟩))
            replace x0 := (d10.cell (p := ⟨w.heap.size, 0, none⟩) s0).trans x0
            replace x1 := (d10.cell (p := ⟨w.heap.size + 1, 0, none⟩) s1).trans x1
            replace x2 := (d10.cell (p := ⟨w.heap.size + 1 + 1, 0, none⟩) s2).trans x2
            replace y0 := (d10.frozen (p := ⟨w.heap.size, 0, none⟩) s0).trans y0
            replace y1 := (d10.frozen (p := ⟨w.heap.size + 1, 0, none⟩) s1).trans y1
            replace y2 := (d10.frozen (p := ⟨w.heap.size + 1 + 1, 0, none⟩) s2).trans y2
            replace s0 := World.block_lt_of_cell? _ _ x0
            replace s1 := World.block_lt_of_cell? _ _ x1
            replace s2 := World.block_lt_of_cell? _ _ x2
            simp only at s0 s1 s2
            replace HA := Lib.hid (HA.out.below d10)
            replace HB := Lib.hid (HB.out.below d10)
            replace Hbw := Lib.hid (Hbw.out.trans (d10.mono (by omega)))
            have zd10 := d10.size
            clear d10
            obtain ⟨wz, rfl⟩ : ∃ x, x = w10 := ⟨_, rfl⟩
            obtain ⟨bA, oA, cA2, hAe, hAb, hAn, hAc⟩ := HA.out.open hnA
            simp only [Value.slice.injEq, true_and] at hAe
            obtain ⟨rfl, rfl⟩ := hAe
            have Hc := Lib.hid (fun (w' : World) (h : Below wz.heap.size wz w') i (hi : i < A.length) => (h.cell (p := ⟨bA, oA + i, none⟩) hAb).trans (hAc i hi))
            have Hcc := Lib.hid (show -1000000 ≤ c ∧ c ≤ 1000000 by omega)
            have Hd := Lib.hid (show R = some (buildZ (fun k => c * A.getD k 0) A.length) by rw [Hd0.out, build_map (fun z => c * z)]; rfl)
            clear hAc
            go_wp2
            clear hz
            go_loopw [9, 62] (fun ov i wr => ∃ k : Nat, k ≤ A.length ∧ i = .int .i64 k ∧ RowI wr wz.heap.size ov (buildZ (fun k => c * A.getD k 0) k) ∧ Below wz.heap.size wz wr) (fun _ i _ => A.length - (intOf i).toNat)
            case atStart => exact ⟨0, Nat.zero_le _, rfl, RowI.emptyB (by simp) (by simp <;> omega), by (repeat' (first | (with_reducible exact Below.refl _ _) | (with_reducible assumption) | (with_reducible refine Below.alloc ?_ ?_ _) | (with_reducible refine Below.setCell ?_ ?_ _) | (with_reducible refine Below.drew ?_) | (with_reducible refine Below.via (by assumption) ?_ ?_) | go_size))⟩
            case round =>
              obtain ⟨k, hk, rfl, hrow, hbel⟩ := hrel
              by_cases hlt : k < A.length
              · have hsz := hbel.size
                have hlen : (buildZ (fun k => c * A.getD k 0) k).length ≤ 1099511627776 := by rw [buildZ_length]; omega
                have Hn := Lib.hid (show buildZ (fun k => c * A.getD k 0) k ++ [c * A.getD k 0] = buildZ (fun k => c * A.getD k 0) (k + 1) from buildZ_succ _ k)
                have c1 := Hc.out wr hbel k hlt
                have hz := HvA.out.bd k
                have hp := mul_bound (M := 1000000) (by omega) Hcc.out hz
                generalize A.getD k 0 = z at *
                have q4 : IntKind.i64.wrap (c * z) = c * z := IntWalk.i64_in _ ⟨by omega, by omega⟩
                go_wp2_with (at_builtin; refine wpList_pushI hrow rfl _ _ rfl int64S_under hlen (by first | omega | (simp only [World.size_alloc]; omega)) rfl rfl ?_; intro v1 w1 hr1 hb1)
                go_roundw
                case rel => exact ⟨k + 1, by omega, by go_num, by rw [← Hn.out]; exact hr1, hbel.trans (hb1.mono (by omega))⟩
                case measure => simp [intOf]; omega
              · obtain rfl : k = A.length := by omega
                have hsz := hbel.size
                have Hrow := Lib.hid hrow.own
                have e2 := (hbel.cell (p := ⟨w.heap.size + 1 + 1, 0, none⟩) s2).trans x2
                have g2 := (hbel.frozen (p := ⟨w.heap.size + 1 + 1, 0, none⟩) s2).trans y2
                have t2 : w.heap.size + 1 + 1 < wr.heap.size := by omega
                have Hb9 := Lib.hid (Hbw.out.trans (hbel.mono (by omega)))
                clear hrow x0 x1 x2 y0 y1 y2 hbel
                go_wp2_with fail
                (go_at_call 86; ((with_reducible refine (whole_impl _ _ _ wz.heap.size Hrow.out (by rw [buildZ_length]; omega)).mono ?_); rintro e w14 ⟨v14, rfl, o14, d14⟩))
                have O14 := Lib.hid o14
                have hT : (trimZ (buildZ (fun k => c * A.getD k 0) A.length)).length ≤ 17 := by rw [trimZ_length]; exact Nat.le_trans (trimTo_le _ _) (by rw [buildZ_length]; omega)
                obtain ⟨p14, n14, rfl⟩ := o14.rd.shape
                replace e2 := (d14.cell (p := ⟨w.heap.size + 1 + 1, 0, none⟩) t2).trans e2
                replace g2 := (d14.frozen (p := ⟨w.heap.size + 1 + 1, 0, none⟩) t2).trans g2
                replace Hb9 := Lib.hid (Hb9.out.trans (d14.mono (by omega)))
                have z14 := d14.size
                clear o14 d14
                generalize hT0 : trimZ (buildZ (fun k => c * A.getD k 0) A.length) = T at *
                have HTe := Lib.hid hT0
                clear hT0
                go_wp2_with fail
                (go_at_call 92; ((with_reducible refine (checked_impl _ T _ wz.heap.size O14.out (by omega)).mono ?_); rintro e w15 ⟨v15, rfl, o15, d15⟩))
                have O15 := Lib.hid o15
                have z15 := d15.size
                replace e2 := (d15.cell (p := ⟨w.heap.size + 1 + 1, 0, none⟩) (by simp only; omega)).trans e2
                replace g2 := (d15.frozen (p := ⟨w.heap.size + 1 + 1, 0, none⟩) (by simp only; omega)).trans g2
                replace Hb9 := Lib.hid (Hb9.out.trans (d15.mono (by omega)))
                obtain ⟨p15, n15, rfl⟩ := o15.rd.shape
                clear o15 d15
                generalize hF0 : giveF T = F at *
                have HFe := Lib.hid hF0
                clear hF0
                go_wp2_with fail
                (try simp only [Exit.inBlock, Exit.then]); refine bodyPost_ret (by simp [results, Try.results41, go_sem, *]; try rfl) rfl ?_
                rw [Ho.out, Hd.out]
                show RWB (giveF (trimZ (buildZ (fun k => c * A.getD k 0) A.length))) _ _ _
                rw [HTe.out, HFe.out]
                exact ⟨_, rfl, OwI.mono (B := wz.heap.size) (OwI.setCell O15.out (by show w.heap.size + 1 + 1 < _; omega) _) (by omega), by have h := Hb9.out; (repeat' (first | (with_reducible exact Below.refl _ _) | (with_reducible assumption) | (with_reducible refine Below.alloc ?_ ?_ _) | (with_reducible refine Below.setCell ?_ ?_ _) | (with_reducible refine Below.drew ?_) | (with_reducible refine Below.via (by assumption) ?_ ?_) | go_size))⟩


end Go.Proofs.Ytlnjkjogedbhfaa
