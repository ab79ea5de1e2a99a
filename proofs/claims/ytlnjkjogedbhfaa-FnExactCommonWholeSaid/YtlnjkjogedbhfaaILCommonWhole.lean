/- FnExactCommonWhole returns true for all arguments. Conditions: none. -/
import Derived.Test.YtlnjkjogedbhfaaIL3
import Derived.Test.YtlnjkjogedbhfaaI27
namespace Go.Proofs.Ytlnjkjogedbhfaa
open Go Go.RowKit
set_option linter.unusedSimpArgs false
set_option linter.unusedVariables false

set_option maxRecDepth 100000 in
set_option maxHeartbeats 8000000 in
theorem law_CommonWhole (va : Value) (a : List Int) (vb : Value) (b : List Int) (w : World) (ha : RdI w va a) (hb : RdI w vb b) : Calls Try.prog 7 #[.agg #[va], .agg #[vb]] w (RB true w) := by
  have Ha := Lib.hid ha
  obtain ⟨aoa, ca, rfl⟩ := ha.shape
  clear ha
  have Hb := Lib.hid hb
  obtain ⟨aob, cb, rfl⟩ := hb.shape
  clear hb
  by_cases hbig0 : (1048576 : Int) - a.length < 0
  · have Hs0 := Lib.hid (szF_neg hbig0)
    go_enter Try.func7, Try.ntmps7
    go_wp2_with fail
    (go_at_call 31; ((with_reducible refine (sz_whole _ a (1048576) _ (Ha.out.below (by (repeat' (first | (with_reducible exact Below.refl _ _) | (with_reducible assumption) | (with_reducible refine Below.alloc ?_ ?_ _) | (with_reducible refine Below.setCell ?_ ?_ _) | (with_reducible refine Below.drew ?_) | (with_reducible refine Below.via (by assumption) ?_ ?_) | go_size)))) (by omega) (by omega)).mono ?_); rintro e w1 ⟨rfl, hb1⟩))
    rw [Hs0.out]
    have zs1 := hb1.size
    simp only [World.size_alloc] at zs1
    have BB := Lib.hid (show Below w.heap.size w w1 by (repeat' (first | (with_reducible exact Below.refl _ _) | (with_reducible assumption) | (with_reducible refine Below.alloc ?_ ?_ _) | (with_reducible refine Below.setCell ?_ ?_ _) | (with_reducible refine Below.drew ?_) | (with_reducible refine Below.via (by assumption) ?_ ?_) | go_size)))
    have l0 : w.heap.size < w1.heap.size := by omega
    have l1 : w.heap.size + 1 < w1.heap.size := by omega
    obtain ⟨ch1, fh1⟩ := bcell hb1
    have x0 : w1.cell? ⟨w.heap.size, 0, none⟩ = some (.slice aoa a.length ca) := by go_simp
    have x1 : w1.cell? ⟨w.heap.size + 1, 0, none⟩ = some (.slice aob b.length cb) := by go_simp
    clear ch1 fh1 hb1
    go_wp2_with fail
    go_ret
    exact ⟨rfl, BB.out⟩
  · have Hs0 := Lib.hid (szF_pos hbig0)
    by_cases hbig1 : (1048576 : Int) - a.length - b.length < 0
    · have Hs1 := Lib.hid (szF_neg hbig1)
      go_enter Try.func7, Try.ntmps7
      go_wp2_with fail
      (go_at_call 31; ((with_reducible refine (sz_whole _ a (1048576) _ (Ha.out.below (by (repeat' (first | (with_reducible exact Below.refl _ _) | (with_reducible assumption) | (with_reducible refine Below.alloc ?_ ?_ _) | (with_reducible refine Below.setCell ?_ ?_ _) | (with_reducible refine Below.drew ?_) | (with_reducible refine Below.via (by assumption) ?_ ?_) | go_size)))) (by omega) (by omega)).mono ?_); rintro e w1 ⟨rfl, hb1⟩))
      rw [Hs0.out]
      have zs1 := hb1.size
      simp only [World.size_alloc] at zs1
      have BB := Lib.hid (show Below w.heap.size w w1 by (repeat' (first | (with_reducible exact Below.refl _ _) | (with_reducible assumption) | (with_reducible refine Below.alloc ?_ ?_ _) | (with_reducible refine Below.setCell ?_ ?_ _) | (with_reducible refine Below.drew ?_) | (with_reducible refine Below.via (by assumption) ?_ ?_) | go_size)))
      have l0 : w.heap.size < w1.heap.size := by omega
      have l1 : w.heap.size + 1 < w1.heap.size := by omega
      obtain ⟨ch1, fh1⟩ := bcell hb1
      have x0 : w1.cell? ⟨w.heap.size, 0, none⟩ = some (.slice aoa a.length ca) := by go_simp
      have x1 : w1.cell? ⟨w.heap.size + 1, 0, none⟩ = some (.slice aob b.length cb) := by go_simp
      clear ch1 fh1 hb1
      go_wp2_with fail
      (go_at_call 31; ((with_reducible refine (sz_whole _ b (1048576 - a.length) _ (Hb.out.below BB.out) (by omega) (by omega)).mono ?_); rintro e w2 ⟨rfl, hb2⟩))
      rw [Hs1.out]
      replace x0 := (hb2.cell (p := ⟨w.heap.size, 0, none⟩) l0).trans x0
      replace l0 := World.block_lt_of_cell? _ _ x0
      replace x1 := (hb2.cell (p := ⟨w.heap.size + 1, 0, none⟩) l1).trans x1
      replace l1 := World.block_lt_of_cell? _ _ x1
      replace BB := Lib.hid (show Below w.heap.size w w2 from BB.out.trans (hb2.mono BB.out.size))
      have zs2 := hb2.size
      clear hb2
      go_wp2_with fail
      go_ret
      exact ⟨rfl, BB.out⟩
    · have Hs1 := Lib.hid (szF_pos hbig1)
      have hla : a.length ≤ 1099511627776 := by omega
      have hlb : b.length ≤ 1099511627776 := by omega
      have HR : (commonW a b).1.length ≤ 1048576 := commonW_len a b
      generalize hRe : commonW a b = R at *
      have HRe := Lib.hid hRe
      clear hRe
      go_enter Try.func7, Try.ntmps7
      go_wp2_with fail
      (go_at_call 31; ((with_reducible refine (sz_whole _ a (1048576) _ (Ha.out.below (by (repeat' (first | (with_reducible exact Below.refl _ _) | (with_reducible assumption) | (with_reducible refine Below.alloc ?_ ?_ _) | (with_reducible refine Below.setCell ?_ ?_ _) | (with_reducible refine Below.drew ?_) | (with_reducible refine Below.via (by assumption) ?_ ?_) | go_size)))) (by omega) (by omega)).mono ?_); rintro e w1 ⟨rfl, hb1⟩))
      rw [Hs0.out]
      have zs1 := hb1.size
      simp only [World.size_alloc] at zs1
      have BB := Lib.hid (show Below w.heap.size w w1 by (repeat' (first | (with_reducible exact Below.refl _ _) | (with_reducible assumption) | (with_reducible refine Below.alloc ?_ ?_ _) | (with_reducible refine Below.setCell ?_ ?_ _) | (with_reducible refine Below.drew ?_) | (with_reducible refine Below.via (by assumption) ?_ ?_) | go_size)))
      have l0 : w.heap.size < w1.heap.size := by omega
      have l1 : w.heap.size + 1 < w1.heap.size := by omega
      obtain ⟨ch1, fh1⟩ := bcell hb1
      have x0 : w1.cell? ⟨w.heap.size, 0, none⟩ = some (.slice aoa a.length ca) := by go_simp
      have x1 : w1.cell? ⟨w.heap.size + 1, 0, none⟩ = some (.slice aob b.length cb) := by go_simp
      clear ch1 fh1 hb1
      go_wp2_with fail
      (go_at_call 31; ((with_reducible refine (sz_whole _ b (1048576 - a.length) _ (Hb.out.below BB.out) (by omega) (by omega)).mono ?_); rintro e w2 ⟨rfl, hb2⟩))
      rw [Hs1.out]
      replace x0 := (hb2.cell (p := ⟨w.heap.size, 0, none⟩) l0).trans x0
      replace l0 := World.block_lt_of_cell? _ _ x0
      replace x1 := (hb2.cell (p := ⟨w.heap.size + 1, 0, none⟩) l1).trans x1
      replace l1 := World.block_lt_of_cell? _ _ x1
      replace BB := Lib.hid (show Below w.heap.size w w2 from BB.out.trans (hb2.mono BB.out.size))
      have zs2 := hb2.size
      clear hb2
      have lt0_2 := World.block_lt_of_cell? _ _ x0
      simp only at lt0_2
      have lt1_2 := World.block_lt_of_cell? _ _ x1
      simp only at lt1_2
      have lq0 := World.block_lt_of_cell? _ _ x0
      simp only at lq0
      have lq1 := World.block_lt_of_cell? _ _ x1
      simp only at lq1
      have bb0 := Below.refl w2.heap.size w2
      go_upto_region 8 with fail
      go_cut [6, 7] (fun s8 s9 wx => CutR w2 R s8 s9 wx)
      case first =>
        have bbw := BB.out
        go_region_held3 (fun w' => w'.cell? ⟨w.heap.size, 0, none⟩ = some (.slice aoa a.length ca) ∧ w'.cell? ⟨w.heap.size + 1, 0, none⟩ = some (.slice aob b.length cb))
          (((try dsimp only); (try go_split_ands); refine ⟨?_, ?_⟩ <;> (first | assumption | (rw [World.cell?_setCell_far _ _ _ _ (by first | omega | (simp <;> omega))]; assumption) | (rw [bf_.cell (by first | omega | (simp <;> omega))]; assumption) | (rw [b1_.cell (by first | omega | (simp <;> omega))]; assumption) | (rw [b0_.cell (by first | omega | (simp <;> omega))]; assumption) | (refine (((Below.refl _ _).alloc (Nat.le_refl _) _).cell (by first | omega | (simp <;> omega))).trans ((((Below.refl _ _).alloc (Nat.le_refl _) _).cell (by first | omega | (simp <;> omega))).symm.trans (by assumption))) | (go_keep; done))))
          (first
            | (go_at_call 33; ((with_reducible refine (to_whole _ a _ (Ha.out.below (by (repeat' (first | (with_reducible exact Below.refl _ _) | (with_reducible assumption) | (with_reducible refine Below.alloc ?_ ?_ _) | (with_reducible refine Below.setCell ?_ ?_ _) | (with_reducible refine Below.drew ?_) | (with_reducible refine Below.via (by assumption) ?_ ?_) | go_size)))) hla).mono ?_); rintro e wa0 ⟨u0, rfl, o0_, b0_⟩; have zq0 := b0_.size; (try simp only [World.size_alloc, World.size_drew, World.size_setCell] at zq0); obtain ⟨cb0_, fb0_⟩ := bcell b0_; (try have lc00 : w2.heap.size < wa0.heap.size := by omega); obtain ⟨p0_, q0_, rfl⟩ := o0_.rd.shape))
            | (go_at_call 33; ((with_reducible refine (to_whole _ b _ (Hb.out.below (by (repeat' (first | (with_reducible exact Below.refl _ _) | (with_reducible assumption) | (with_reducible refine Below.alloc ?_ ?_ _) | (with_reducible refine Below.setCell ?_ ?_ _) | (with_reducible refine Below.drew ?_) | (with_reducible refine Below.via (by assumption) ?_ ?_) | go_size)))) hlb).mono ?_); rintro e wa1 ⟨u1, rfl, o1_, b1_⟩; have zq1 := b1_.size; (try simp only [World.size_alloc, World.size_drew, World.size_setCell] at zq1); obtain ⟨cb1_, fb1_⟩ := bcell b1_; (try have lc10 : w2.heap.size < wa1.heap.size := by omega); (try have lc11 : wa0.heap.size < wa1.heap.size := by omega); obtain ⟨p1_, q1_, rfl⟩ := o1_.rd.shape))
            | (go_at_call 40; ((with_reducible refine (CommonWhole_spec _ _ a b _ (o0_.rd.below (by (repeat' (first | (with_reducible exact Below.refl _ _) | (with_reducible assumption) | (with_reducible refine Below.alloc ?_ ?_ _) | (with_reducible refine Below.setCell ?_ ?_ _) | (with_reducible refine Below.drew ?_) | (with_reducible refine Below.via (by assumption) ?_ ?_) | go_size)))) (o1_.rd.below (by (repeat' (first | (with_reducible exact Below.refl _ _) | (with_reducible assumption) | (with_reducible refine Below.alloc ?_ ?_ _) | (with_reducible refine Below.setCell ?_ ?_ _) | (with_reducible refine Below.drew ?_) | (with_reducible refine Below.via (by assumption) ?_ ?_) | go_size)))) hla hlb).mono ?_); (try rw [HRe.out]); rintro e wf ⟨uf, rfl, of_, bf_⟩; have zqf := bf_.size; (try simp only [World.size_alloc, World.size_drew, World.size_setCell] at zqf); obtain ⟨cbf_, fbf_⟩ := bcell bf_; (try have lcf0 : w2.heap.size < wf.heap.size := by omega); (try have lcf1 : wa0.heap.size < wf.heap.size := by omega); (try have lcf2 : wa1.heap.size < wf.heap.size := by omega); obtain ⟨pf_, qf_, rfl⟩ := of_.rd.shape))
          )
        all_goals (go_wp2_with fail; go_meet; exact ⟨_, pf_, qf_, rfl, rfl, ⟨by first | omega | (simp <;> omega), by first | omega | (simp <;> omega), by go_simp, OwI.range (by first | (with_reducible refine OwI.mono (OwI.setCell of_ ?_ _) ?_ <;> (first | omega | (simp <;> omega))) | (exact (of_.below (by (repeat' (first | (with_reducible exact Below.refl _ _) | (with_reducible assumption) | (with_reducible refine Below.alloc ?_ ?_ _) | (with_reducible refine Below.setCell ?_ ?_ _) | (with_reducible refine Below.drew ?_) | (with_reducible refine Below.via (by assumption) ?_ ?_) | go_size)))).mono (by first | omega | (simp <;> omega))))⟩, by (repeat' (first | (with_reducible exact Below.refl _ _) | (with_reducible assumption) | (with_reducible refine Below.alloc ?_ ?_ _) | (with_reducible refine Below.setCell ?_ ?_ _) | (with_reducible refine Below.drew ?_) | (with_reducible refine Below.via (by assumption) ?_ ?_) | go_size))⟩)
      case rest =>
        obtain ⟨g8, p8, q8, rfl, rfl, ⟨hg8, hg8b, y8, O8⟩, hbc⟩ := hcut
        replace O8 := Lib.hid O8
        generalize wc = wd at *
        replace x0 := (hbc.cell (p := ⟨w.heap.size, 0, none⟩) (World.block_lt_of_cell? _ _ x0)).trans x0
        replace x1 := (hbc.cell (p := ⟨w.heap.size + 1, 0, none⟩) (World.block_lt_of_cell? _ _ x1)).trans x1
        have zz4 := hbc.size
        (try simp only [World.size_alloc, World.size_drew, World.size_setCell] at zz4)
        replace BB := Lib.hid (show Below w.heap.size w wd from BB.out.trans (hbc.mono BB.out.size))
        clear hbc
        have lx_x0 : w.heap.size < wd.heap.size := World.block_lt_of_cell? _ _ x0
        have lx_x1 : w.heap.size + 1 < wd.heap.size := World.block_lt_of_cell? _ _ x1
        go_wp2_with fail
        (go_at_call 33; ((with_reducible refine (to_whole _ a _ (Ha.out.below (by have h := BB.out; (repeat' (first | (with_reducible exact Below.refl _ _) | (with_reducible assumption) | (with_reducible refine Below.alloc ?_ ?_ _) | (with_reducible refine Below.setCell ?_ ?_ _) | (with_reducible refine Below.drew ?_) | (with_reducible refine Below.via (by assumption) ?_ ?_) | go_size)))) hla).mono ?_); rintro e wx0 ⟨ux0, rfl, ox0, hb5⟩))
        obtain ⟨px0, qx0, rfl⟩ := ox0.rd.shape
        have OX0 := Lib.hid (show OwR wx0 wd.heap.size wx0.heap.size _ _ by simpa using ox0.range)
        clear ox0
        have hB5 := (show Below wd.heap.size wd wx0 by (repeat' (first | (with_reducible exact Below.refl _ _) | (with_reducible assumption) | (with_reducible refine Below.alloc ?_ ?_ _) | (with_reducible refine Below.setCell ?_ ?_ _) | (with_reducible refine Below.drew ?_) | (with_reducible refine Below.via (by assumption) ?_ ?_) | go_size)))
        replace x0 := (hB5.cell (p := ⟨w.heap.size, 0, none⟩) (World.block_lt_of_cell? _ _ x0)).trans x0
        replace x1 := (hB5.cell (p := ⟨w.heap.size + 1, 0, none⟩) (World.block_lt_of_cell? _ _ x1)).trans x1
        replace y8 := (hB5.cell (p := ⟨g8, 0, none⟩) (World.block_lt_of_cell? _ _ y8)).trans y8
        replace O8 := Lib.hid (O8.out.below hB5)
        have zz5 := hB5.size
        replace BB := Lib.hid (show Below w.heap.size w wx0 from BB.out.trans (hB5.mono BB.out.size))
        clear hB5 hb5
        have lx_x0 : w.heap.size < wx0.heap.size := World.block_lt_of_cell? _ _ x0
        have lx_x1 : w.heap.size + 1 < wx0.heap.size := World.block_lt_of_cell? _ _ x1
        have lx_y8 : g8 < wx0.heap.size := World.block_lt_of_cell? _ _ y8
        go_wp2_with fail
        (go_at_call 33; ((with_reducible refine (to_whole _ b _ (Hb.out.below (by have h := BB.out; (repeat' (first | (with_reducible exact Below.refl _ _) | (with_reducible assumption) | (with_reducible refine Below.alloc ?_ ?_ _) | (with_reducible refine Below.setCell ?_ ?_ _) | (with_reducible refine Below.drew ?_) | (with_reducible refine Below.via (by assumption) ?_ ?_) | go_size)))) hlb).mono ?_); rintro e wx1 ⟨ux1, rfl, ox1, hb6⟩))
        obtain ⟨px1, qx1, rfl⟩ := ox1.rd.shape
        have OX1 := Lib.hid (show OwR wx1 (wx0.heap.size + 1) wx1.heap.size _ _ by simpa using ox1.range)
        clear ox1
        have hB6 := (show Below wx0.heap.size wx0 wx1 by (repeat' (first | (with_reducible exact Below.refl _ _) | (with_reducible assumption) | (with_reducible refine Below.alloc ?_ ?_ _) | (with_reducible refine Below.setCell ?_ ?_ _) | (with_reducible refine Below.drew ?_) | (with_reducible refine Below.via (by assumption) ?_ ?_) | go_size)))
        have y10 := (hb6.cell (p := ⟨wx0.heap.size, 0, none⟩) (by simp)).trans (World.cell?_alloc_new wx0 _ _ 0 : _)
        replace x0 := (hB6.cell (p := ⟨w.heap.size, 0, none⟩) (World.block_lt_of_cell? _ _ x0)).trans x0
        replace x1 := (hB6.cell (p := ⟨w.heap.size + 1, 0, none⟩) (World.block_lt_of_cell? _ _ x1)).trans x1
        replace y8 := (hB6.cell (p := ⟨g8, 0, none⟩) (World.block_lt_of_cell? _ _ y8)).trans y8
        replace O8 := Lib.hid (O8.out.below hB6)
        replace OX0 := Lib.hid (OX0.out.below hB6)
        have zz6 := hB6.size
        replace BB := Lib.hid (show Below w.heap.size w wx1 from BB.out.trans (hB6.mono BB.out.size))
        have zy6 := World.block_lt_of_cell? _ _ y10
        simp only at zy6
        clear hB6 hb6
        have lx_x0 : w.heap.size < wx1.heap.size := World.block_lt_of_cell? _ _ x0
        have lx_x1 : w.heap.size + 1 < wx1.heap.size := World.block_lt_of_cell? _ _ x1
        have lx_y8 : g8 < wx1.heap.size := World.block_lt_of_cell? _ _ y8
        have lx_y10 : wx0.heap.size < wx1.heap.size := World.block_lt_of_cell? _ _ y10
        go_wp2_with fail
        (go_at_call 41; ((with_reducible refine (CommonWhole_impl _ _ a b _ (OX0.out.rd.below (by (repeat' (first | (with_reducible exact Below.refl _ _) | (with_reducible assumption) | (with_reducible refine Below.alloc ?_ ?_ _) | (with_reducible refine Below.setCell ?_ ?_ _) | (with_reducible refine Below.drew ?_) | (with_reducible refine Below.via (by assumption) ?_ ?_) | go_size)))) (OX1.out.rd.below (by (repeat' (first | (with_reducible exact Below.refl _ _) | (with_reducible assumption) | (with_reducible refine Below.alloc ?_ ?_ _) | (with_reducible refine Below.setCell ?_ ?_ _) | (with_reducible refine Below.drew ?_) | (with_reducible refine Below.via (by assumption) ?_ ?_) | go_size)))) (by omega) (by omega)).mono ?_); rintro e wg ⟨ug, rfl, og, hb7⟩))
        (try rw [HRe.out] at og)
        (try rw [HRe.out])
        obtain ⟨pg, qg, rfl⟩ := og.rd.shape
        have OG := Lib.hid (show OwR wg (wx1.heap.size + 1) wg.heap.size _ _ by simpa using og.range)
        clear og
        have hB7 := (show Below wx1.heap.size wx1 wg by (repeat' (first | (with_reducible exact Below.refl _ _) | (with_reducible assumption) | (with_reducible refine Below.alloc ?_ ?_ _) | (with_reducible refine Below.setCell ?_ ?_ _) | (with_reducible refine Below.drew ?_) | (with_reducible refine Below.via (by assumption) ?_ ?_) | go_size)))
        have y11 := (hb7.cell (p := ⟨wx1.heap.size, 0, none⟩) (by simp)).trans (World.cell?_alloc_new wx1 _ _ 0 : _)
        replace x0 := (hB7.cell (p := ⟨w.heap.size, 0, none⟩) (World.block_lt_of_cell? _ _ x0)).trans x0
        replace x1 := (hB7.cell (p := ⟨w.heap.size + 1, 0, none⟩) (World.block_lt_of_cell? _ _ x1)).trans x1
        replace y8 := (hB7.cell (p := ⟨g8, 0, none⟩) (World.block_lt_of_cell? _ _ y8)).trans y8
        replace y10 := (hB7.cell (p := ⟨wx0.heap.size, 0, none⟩) (World.block_lt_of_cell? _ _ y10)).trans y10
        replace O8 := Lib.hid (O8.out.below hB7)
        replace OX0 := Lib.hid (OX0.out.below hB7)
        replace OX1 := Lib.hid (OX1.out.below hB7)
        have zz7 := hB7.size
        replace BB := Lib.hid (show Below w.heap.size w wg from BB.out.trans (hB7.mono BB.out.size))
        have zy7 := World.block_lt_of_cell? _ _ y11
        simp only at zy7
        clear hB7 hb7
        have lx_x0 : w.heap.size < wg.heap.size := World.block_lt_of_cell? _ _ x0
        have lx_x1 : w.heap.size + 1 < wg.heap.size := World.block_lt_of_cell? _ _ x1
        have lx_y8 : g8 < wg.heap.size := World.block_lt_of_cell? _ _ y8
        have lx_y10 : wx0.heap.size < wg.heap.size := World.block_lt_of_cell? _ _ y10
        have lx_y11 : wx1.heap.size < wg.heap.size := World.block_lt_of_cell? _ _ y11
        go_wp2_with fail
        (go_at_call 35; ((with_reducible refine (eq_whole _ _ R.1 _ (OG.out.rd.below (by (repeat' (first | (with_reducible exact Below.refl _ _) | (with_reducible assumption) | (with_reducible refine Below.alloc ?_ ?_ _) | (with_reducible refine Below.setCell ?_ ?_ _) | (with_reducible refine Below.drew ?_) | (with_reducible refine Below.via (by assumption) ?_ ?_) | go_size)))) (O8.out.rd.below (by (repeat' (first | (with_reducible exact Below.refl _ _) | (with_reducible assumption) | (with_reducible refine Below.alloc ?_ ?_ _) | (with_reducible refine Below.setCell ?_ ?_ _) | (with_reducible refine Below.drew ?_) | (with_reducible refine Below.via (by assumption) ?_ ?_) | go_size)))) (by omega)).mono ?_); rintro e wh0 ⟨rfl, hb8⟩))
        have hB8 := (show Below wg.heap.size wg wh0 by (repeat' (first | (with_reducible exact Below.refl _ _) | (with_reducible assumption) | (with_reducible refine Below.alloc ?_ ?_ _) | (with_reducible refine Below.setCell ?_ ?_ _) | (with_reducible refine Below.drew ?_) | (with_reducible refine Below.via (by assumption) ?_ ?_) | go_size)))
        have y12 := (hb8.cell (p := ⟨wg.heap.size, 0, none⟩) (by simp)).trans (World.cell?_alloc_new wg _ _ 0 : _)
        replace x0 := (hB8.cell (p := ⟨w.heap.size, 0, none⟩) (World.block_lt_of_cell? _ _ x0)).trans x0
        replace x1 := (hB8.cell (p := ⟨w.heap.size + 1, 0, none⟩) (World.block_lt_of_cell? _ _ x1)).trans x1
        replace y8 := (hB8.cell (p := ⟨g8, 0, none⟩) (World.block_lt_of_cell? _ _ y8)).trans y8
        replace y10 := (hB8.cell (p := ⟨wx0.heap.size, 0, none⟩) (World.block_lt_of_cell? _ _ y10)).trans y10
        replace y11 := (hB8.cell (p := ⟨wx1.heap.size, 0, none⟩) (World.block_lt_of_cell? _ _ y11)).trans y11
        replace O8 := Lib.hid (O8.out.below hB8)
        replace OX0 := Lib.hid (OX0.out.below hB8)
        replace OX1 := Lib.hid (OX1.out.below hB8)
        replace OG := Lib.hid (OG.out.below hB8)
        have zz8 := hB8.size
        replace BB := Lib.hid (show Below w.heap.size w wh0 from BB.out.trans (hB8.mono BB.out.size))
        have zy8 := World.block_lt_of_cell? _ _ y12
        simp only at zy8
        clear hB8 hb8
        have lx_x0 : w.heap.size < wh0.heap.size := World.block_lt_of_cell? _ _ x0
        have lx_x1 : w.heap.size + 1 < wh0.heap.size := World.block_lt_of_cell? _ _ x1
        have lx_y8 : g8 < wh0.heap.size := World.block_lt_of_cell? _ _ y8
        have lx_y10 : wx0.heap.size < wh0.heap.size := World.block_lt_of_cell? _ _ y10
        have lx_y11 : wx1.heap.size < wh0.heap.size := World.block_lt_of_cell? _ _ y11
        have lx_y12 : wg.heap.size < wh0.heap.size := World.block_lt_of_cell? _ _ y12
        go_wp2_with fail
        have lt0_9 := World.block_lt_of_cell? _ _ x0
        simp only at lt0_9
        have lt1_9 := World.block_lt_of_cell? _ _ x1
        simp only at lt1_9
        have lt2_9 := World.block_lt_of_cell? _ _ y8
        simp only at lt2_9
        have lt3_9 := World.block_lt_of_cell? _ _ y10
        simp only at lt3_9
        have lt4_9 := World.block_lt_of_cell? _ _ y11
        simp only at lt4_9
        have lt5_9 := World.block_lt_of_cell? _ _ y12
        simp only at lt5_9
        go_region_held3 (fun w' => w'.cell? ⟨wx0.heap.size, 0, none⟩ = some (.slice px0 a.length qx0) ∧ w'.cell? ⟨w.heap.size, 0, none⟩ = some (.slice aoa a.length ca))
          (((try dsimp only); (try go_split_ands); refine ⟨?_, ?_⟩ <;> (first | assumption | (rw [hbe.cell (by first | omega | (simp <;> omega))]; assumption) | (rw [hbd.cell (by first | omega | (simp <;> omega))]; assumption) | (go_keep; done))))
          (first
            | (go_at_call 33; ((with_reducible refine (to_whole _ a _ (Ha.out.below (by have h := BB.out; (repeat' (first | (with_reducible exact Below.refl _ _) | (with_reducible assumption) | (with_reducible refine Below.alloc ?_ ?_ _) | (with_reducible refine Below.setCell ?_ ?_ _) | (with_reducible refine Below.drew ?_) | (with_reducible refine Below.via (by assumption) ?_ ?_) | go_size)))) hla).mono ?_); rintro e wd0 ⟨ud0, rfl, od0, hbd⟩; have zzd0 := hbd.size; (try simp only [World.size_alloc, World.size_drew, World.size_setCell] at zzd0); obtain ⟨pd0, qd0, rfl⟩ := od0.rd.shape))
            | (go_at_call 35; ((with_reducible refine (eq_whole _ _ a _ (OX0.out.rd.below (by (repeat' (first | (with_reducible exact Below.refl _ _) | (with_reducible assumption) | (with_reducible refine Below.alloc ?_ ?_ _) | (with_reducible refine Below.setCell ?_ ?_ _) | (with_reducible refine Below.drew ?_) | (with_reducible refine Below.via (by assumption) ?_ ?_) | go_size)))) (od0.rd.below (by (repeat' (first | (with_reducible exact Below.refl _ _) | (with_reducible assumption) | (with_reducible refine Below.alloc ?_ ?_ _) | (with_reducible refine Below.setCell ?_ ?_ _) | (with_reducible refine Below.drew ?_) | (with_reducible refine Below.via (by assumption) ?_ ?_) | go_size)))) hla).mono ?_); rintro e we0 ⟨rfl, hbe⟩; have zze0 := hbe.size; (try simp only [World.size_alloc, World.size_drew, World.size_setCell] at zze0))))
        have hB9 := (show Below wh0.heap.size wh0 we0 by (repeat' (first | (with_reducible exact Below.refl _ _) | (with_reducible assumption) | (with_reducible refine Below.alloc ?_ ?_ _) | (with_reducible refine Below.setCell ?_ ?_ _) | (with_reducible refine Below.drew ?_) | (with_reducible refine Below.via (by assumption) ?_ ?_) | go_size)))
        replace x0 := (hB9.cell (p := ⟨w.heap.size, 0, none⟩) (World.block_lt_of_cell? _ _ x0)).trans x0
        replace x1 := (hB9.cell (p := ⟨w.heap.size + 1, 0, none⟩) (World.block_lt_of_cell? _ _ x1)).trans x1
        replace y8 := (hB9.cell (p := ⟨g8, 0, none⟩) (World.block_lt_of_cell? _ _ y8)).trans y8
        replace y10 := (hB9.cell (p := ⟨wx0.heap.size, 0, none⟩) (World.block_lt_of_cell? _ _ y10)).trans y10
        replace y11 := (hB9.cell (p := ⟨wx1.heap.size, 0, none⟩) (World.block_lt_of_cell? _ _ y11)).trans y11
        replace y12 := (hB9.cell (p := ⟨wg.heap.size, 0, none⟩) (World.block_lt_of_cell? _ _ y12)).trans y12
        replace O8 := Lib.hid (O8.out.below hB9)
        replace OX0 := Lib.hid (OX0.out.below hB9)
        replace OX1 := Lib.hid (OX1.out.below hB9)
        replace OG := Lib.hid (OG.out.below hB9)
        have zz9 := hB9.size
        replace BB := Lib.hid (show Below w.heap.size w we0 from BB.out.trans (hB9.mono BB.out.size))
        clear hB9 hbd hbe od0
        go_wp2_with fail
        have lt0_10 := World.block_lt_of_cell? _ _ x0
        simp only at lt0_10
        have lt1_10 := World.block_lt_of_cell? _ _ x1
        simp only at lt1_10
        have lt2_10 := World.block_lt_of_cell? _ _ y8
        simp only at lt2_10
        have lt3_10 := World.block_lt_of_cell? _ _ y10
        simp only at lt3_10
        have lt4_10 := World.block_lt_of_cell? _ _ y11
        simp only at lt4_10
        have lt5_10 := World.block_lt_of_cell? _ _ y12
        simp only at lt5_10
        go_region_held3 (fun w' => w'.cell? ⟨wx1.heap.size, 0, none⟩ = some (.slice px1 b.length qx1) ∧ w'.cell? ⟨w.heap.size + 1, 0, none⟩ = some (.slice aob b.length cb))
          (((try dsimp only); (try go_split_ands); refine ⟨?_, ?_⟩ <;> (first | assumption | (rw [hbe.cell (by first | omega | (simp <;> omega))]; assumption) | (rw [hbd.cell (by first | omega | (simp <;> omega))]; assumption) | (go_keep; done))))
          (first
            | (go_at_call 33; ((with_reducible refine (to_whole _ b _ (Hb.out.below (by have h := BB.out; (repeat' (first | (with_reducible exact Below.refl _ _) | (with_reducible assumption) | (with_reducible refine Below.alloc ?_ ?_ _) | (with_reducible refine Below.setCell ?_ ?_ _) | (with_reducible refine Below.drew ?_) | (with_reducible refine Below.via (by assumption) ?_ ?_) | go_size)))) hlb).mono ?_); rintro e wd1 ⟨ud1, rfl, od1, hbd⟩; have zzd1 := hbd.size; (try simp only [World.size_alloc, World.size_drew, World.size_setCell] at zzd1); obtain ⟨pd1, qd1, rfl⟩ := od1.rd.shape))
            | (go_at_call 35; ((with_reducible refine (eq_whole _ _ b _ (OX1.out.rd.below (by (repeat' (first | (with_reducible exact Below.refl _ _) | (with_reducible assumption) | (with_reducible refine Below.alloc ?_ ?_ _) | (with_reducible refine Below.setCell ?_ ?_ _) | (with_reducible refine Below.drew ?_) | (with_reducible refine Below.via (by assumption) ?_ ?_) | go_size)))) (od1.rd.below (by (repeat' (first | (with_reducible exact Below.refl _ _) | (with_reducible assumption) | (with_reducible refine Below.alloc ?_ ?_ _) | (with_reducible refine Below.setCell ?_ ?_ _) | (with_reducible refine Below.drew ?_) | (with_reducible refine Below.via (by assumption) ?_ ?_) | go_size)))) hlb).mono ?_); rintro e we1 ⟨rfl, hbe⟩; have zze1 := hbe.size; (try simp only [World.size_alloc, World.size_drew, World.size_setCell] at zze1))))
        have hB10 := (show Below we0.heap.size we0 we1 by (repeat' (first | (with_reducible exact Below.refl _ _) | (with_reducible assumption) | (with_reducible refine Below.alloc ?_ ?_ _) | (with_reducible refine Below.setCell ?_ ?_ _) | (with_reducible refine Below.drew ?_) | (with_reducible refine Below.via (by assumption) ?_ ?_) | go_size)))
        replace x0 := (hB10.cell (p := ⟨w.heap.size, 0, none⟩) (World.block_lt_of_cell? _ _ x0)).trans x0
        replace x1 := (hB10.cell (p := ⟨w.heap.size + 1, 0, none⟩) (World.block_lt_of_cell? _ _ x1)).trans x1
        replace y8 := (hB10.cell (p := ⟨g8, 0, none⟩) (World.block_lt_of_cell? _ _ y8)).trans y8
        replace y10 := (hB10.cell (p := ⟨wx0.heap.size, 0, none⟩) (World.block_lt_of_cell? _ _ y10)).trans y10
        replace y11 := (hB10.cell (p := ⟨wx1.heap.size, 0, none⟩) (World.block_lt_of_cell? _ _ y11)).trans y11
        replace y12 := (hB10.cell (p := ⟨wg.heap.size, 0, none⟩) (World.block_lt_of_cell? _ _ y12)).trans y12
        replace O8 := Lib.hid (O8.out.below hB10)
        replace OX0 := Lib.hid (OX0.out.below hB10)
        replace OX1 := Lib.hid (OX1.out.below hB10)
        replace OG := Lib.hid (OG.out.below hB10)
        have zz10 := hB10.size
        replace BB := Lib.hid (show Below w.heap.size w we1 from BB.out.trans (hB10.mono BB.out.size))
        clear hB10 hbd hbe od1
        go_wp2_with fail
        (go_at_call 36; ((with_reducible refine (mark_whole _ a wd.heap.size wx0.heap.size (1) _ OX0.out (by omega) (by omega) (by omega)).mono ?_); rintro e wm0 ⟨rfl, om11, hb11⟩))
        replace OX0 := Lib.hid om11
        clear om11
        replace x0 := (hb11.cell (p := ⟨w.heap.size, 0, none⟩) (World.block_lt_of_cell? _ _ x0) (by simp only; omega)).trans x0
        replace x1 := (hb11.cell (p := ⟨w.heap.size + 1, 0, none⟩) (World.block_lt_of_cell? _ _ x1) (by simp only; omega)).trans x1
        replace y8 := (hb11.cell (p := ⟨g8, 0, none⟩) (World.block_lt_of_cell? _ _ y8) (by simp only; omega)).trans y8
        replace y10 := (hb11.cell (p := ⟨wx0.heap.size, 0, none⟩) (World.block_lt_of_cell? _ _ y10) (by simp only; omega)).trans y10
        replace y11 := (hb11.cell (p := ⟨wx1.heap.size, 0, none⟩) (World.block_lt_of_cell? _ _ y11) (by simp only; omega)).trans y11
        replace y12 := (hb11.cell (p := ⟨wg.heap.size, 0, none⟩) (World.block_lt_of_cell? _ _ y12) (by simp only; omega)).trans y12
        replace O8 := Lib.hid (O8.out.only hb11 (by omega))
        replace OX1 := Lib.hid (OX1.out.only hb11 (by omega))
        replace OG := Lib.hid (OG.out.only hb11 (by omega))
        have zz11 := hb11.size
        replace BB := Lib.hid (show Below w.heap.size w wm0 from BB.out.trans (hb11.toBelow (by omega) (by omega)))
        clear hb11
        clear OX0
        go_wp2_with fail
        (go_at_call 36; ((with_reducible refine (mark_whole _ b (wx0.heap.size + 1) wx1.heap.size (1 + a.length) _ OX1.out (by omega) (by omega) (by omega)).mono ?_); rintro e wm1 ⟨rfl, om12, hb12⟩))
        replace OX1 := Lib.hid om12
        clear om12
        replace x0 := (hb12.cell (p := ⟨w.heap.size, 0, none⟩) (World.block_lt_of_cell? _ _ x0) (by simp only; omega)).trans x0
        replace x1 := (hb12.cell (p := ⟨w.heap.size + 1, 0, none⟩) (World.block_lt_of_cell? _ _ x1) (by simp only; omega)).trans x1
        replace y8 := (hb12.cell (p := ⟨g8, 0, none⟩) (World.block_lt_of_cell? _ _ y8) (by simp only; omega)).trans y8
        replace y10 := (hb12.cell (p := ⟨wx0.heap.size, 0, none⟩) (World.block_lt_of_cell? _ _ y10) (by simp only; omega)).trans y10
        replace y11 := (hb12.cell (p := ⟨wx1.heap.size, 0, none⟩) (World.block_lt_of_cell? _ _ y11) (by simp only; omega)).trans y11
        replace y12 := (hb12.cell (p := ⟨wg.heap.size, 0, none⟩) (World.block_lt_of_cell? _ _ y12) (by simp only; omega)).trans y12
        replace O8 := Lib.hid (O8.out.only hb12 (by omega))
        replace OG := Lib.hid (OG.out.only hb12 (by omega))
        have zz12 := hb12.size
        replace BB := Lib.hid (show Below w.heap.size w wm1 from BB.out.trans (hb12.toBelow (by omega) (by omega)))
        clear hb12
        clear OX1
        go_wp2_with fail
        (go_at_call 35; ((with_reducible refine (eq_whole _ _ R.1 _ (OG.out.rd.below (by (repeat' (first | (with_reducible exact Below.refl _ _) | (with_reducible assumption) | (with_reducible refine Below.alloc ?_ ?_ _) | (with_reducible refine Below.setCell ?_ ?_ _) | (with_reducible refine Below.drew ?_) | (with_reducible refine Below.via (by assumption) ?_ ?_) | go_size)))) (O8.out.rd.below (by (repeat' (first | (with_reducible exact Below.refl _ _) | (with_reducible assumption) | (with_reducible refine Below.alloc ?_ ?_ _) | (with_reducible refine Below.setCell ?_ ?_ _) | (with_reducible refine Below.drew ?_) | (with_reducible refine Below.via (by assumption) ?_ ?_) | go_size)))) (by omega)).mono ?_); rintro e wh1 ⟨rfl, hb13⟩))
        have hB13 := (show Below wm1.heap.size wm1 wh1 by (repeat' (first | (with_reducible exact Below.refl _ _) | (with_reducible assumption) | (with_reducible refine Below.alloc ?_ ?_ _) | (with_reducible refine Below.setCell ?_ ?_ _) | (with_reducible refine Below.drew ?_) | (with_reducible refine Below.via (by assumption) ?_ ?_) | go_size)))
        replace x0 := (hB13.cell (p := ⟨w.heap.size, 0, none⟩) (World.block_lt_of_cell? _ _ x0)).trans x0
        replace x1 := (hB13.cell (p := ⟨w.heap.size + 1, 0, none⟩) (World.block_lt_of_cell? _ _ x1)).trans x1
        replace y8 := (hB13.cell (p := ⟨g8, 0, none⟩) (World.block_lt_of_cell? _ _ y8)).trans y8
        replace y10 := (hB13.cell (p := ⟨wx0.heap.size, 0, none⟩) (World.block_lt_of_cell? _ _ y10)).trans y10
        replace y11 := (hB13.cell (p := ⟨wx1.heap.size, 0, none⟩) (World.block_lt_of_cell? _ _ y11)).trans y11
        replace y12 := (hB13.cell (p := ⟨wg.heap.size, 0, none⟩) (World.block_lt_of_cell? _ _ y12)).trans y12
        replace O8 := Lib.hid (O8.out.below hB13)
        replace OG := Lib.hid (OG.out.below hB13)
        have zz13 := hB13.size
        replace BB := Lib.hid (show Below w.heap.size w wh1 from BB.out.trans (hB13.mono BB.out.size))
        clear hB13 hb13
        have lx_x0 : w.heap.size < wh1.heap.size := World.block_lt_of_cell? _ _ x0
        have lx_x1 : w.heap.size + 1 < wh1.heap.size := World.block_lt_of_cell? _ _ x1
        have lx_y8 : g8 < wh1.heap.size := World.block_lt_of_cell? _ _ y8
        have lx_y10 : wx0.heap.size < wh1.heap.size := World.block_lt_of_cell? _ _ y10
        have lx_y11 : wx1.heap.size < wh1.heap.size := World.block_lt_of_cell? _ _ y11
        have lx_y12 : wg.heap.size < wh1.heap.size := World.block_lt_of_cell? _ _ y12
        go_wp2_with fail
        (go_at_call 36; ((with_reducible refine (mark_whole _ R.1 (wx1.heap.size + 1) wg.heap.size (1) _ OG.out (by omega) (by omega) (by omega)).mono ?_); rintro e wm9 ⟨rfl, om14, hb14⟩))
        replace OG := Lib.hid om14
        clear om14
        replace x0 := (hb14.cell (p := ⟨w.heap.size, 0, none⟩) (World.block_lt_of_cell? _ _ x0) (by simp only; omega)).trans x0
        replace x1 := (hb14.cell (p := ⟨w.heap.size + 1, 0, none⟩) (World.block_lt_of_cell? _ _ x1) (by simp only; omega)).trans x1
        replace y8 := (hb14.cell (p := ⟨g8, 0, none⟩) (World.block_lt_of_cell? _ _ y8) (by simp only; omega)).trans y8
        replace y10 := (hb14.cell (p := ⟨wx0.heap.size, 0, none⟩) (World.block_lt_of_cell? _ _ y10) (by simp only; omega)).trans y10
        replace y11 := (hb14.cell (p := ⟨wx1.heap.size, 0, none⟩) (World.block_lt_of_cell? _ _ y11) (by simp only; omega)).trans y11
        replace y12 := (hb14.cell (p := ⟨wg.heap.size, 0, none⟩) (World.block_lt_of_cell? _ _ y12) (by simp only; omega)).trans y12
        replace O8 := Lib.hid (O8.out.only hb14 (by omega))
        have zz14 := hb14.size
        replace BB := Lib.hid (show Below w.heap.size w wm9 from BB.out.trans (hb14.toBelow (by omega) (by omega)))
        clear hb14
        go_wp2_with fail
        (go_at_call 37; ((with_reducible refine (held_whole _ R.1.length 1 _ (OG.out.rd.below (by (repeat' (first | (with_reducible exact Below.refl _ _) | (with_reducible assumption) | (with_reducible refine Below.alloc ?_ ?_ _) | (with_reducible refine Below.setCell ?_ ?_ _) | (with_reducible refine Below.drew ?_) | (with_reducible refine Below.via (by assumption) ?_ ?_) | go_size)))) (by omega) (by omega) (by omega)).mono ?_); rintro e wh2 ⟨rfl, hb15⟩))
        replace OG := Lib.hid (OG.out.below (show Below wm9.heap.size wm9 wh2 by (repeat' (first | (with_reducible exact Below.refl _ _) | (with_reducible assumption) | (with_reducible refine Below.alloc ?_ ?_ _) | (with_reducible refine Below.setCell ?_ ?_ _) | (with_reducible refine Below.drew ?_) | (with_reducible refine Below.via (by assumption) ?_ ?_) | go_size))))
        have hB15 := (show Below wm9.heap.size wm9 wh2 by (repeat' (first | (with_reducible exact Below.refl _ _) | (with_reducible assumption) | (with_reducible refine Below.alloc ?_ ?_ _) | (with_reducible refine Below.setCell ?_ ?_ _) | (with_reducible refine Below.drew ?_) | (with_reducible refine Below.via (by assumption) ?_ ?_) | go_size)))
        replace x0 := (hB15.cell (p := ⟨w.heap.size, 0, none⟩) (World.block_lt_of_cell? _ _ x0)).trans x0
        replace x1 := (hB15.cell (p := ⟨w.heap.size + 1, 0, none⟩) (World.block_lt_of_cell? _ _ x1)).trans x1
        replace y8 := (hB15.cell (p := ⟨g8, 0, none⟩) (World.block_lt_of_cell? _ _ y8)).trans y8
        replace y10 := (hB15.cell (p := ⟨wx0.heap.size, 0, none⟩) (World.block_lt_of_cell? _ _ y10)).trans y10
        replace y11 := (hB15.cell (p := ⟨wx1.heap.size, 0, none⟩) (World.block_lt_of_cell? _ _ y11)).trans y11
        replace y12 := (hB15.cell (p := ⟨wg.heap.size, 0, none⟩) (World.block_lt_of_cell? _ _ y12)).trans y12
        replace O8 := Lib.hid (O8.out.below hB15)
        have zz15 := hB15.size
        replace BB := Lib.hid (show Below w.heap.size w wh2 from BB.out.trans (hB15.mono BB.out.size))
        clear hB15 hb15
        have lx_x0 : w.heap.size < wh2.heap.size := World.block_lt_of_cell? _ _ x0
        have lx_x1 : w.heap.size + 1 < wh2.heap.size := World.block_lt_of_cell? _ _ x1
        have lx_y8 : g8 < wh2.heap.size := World.block_lt_of_cell? _ _ y8
        have lx_y10 : wx0.heap.size < wh2.heap.size := World.block_lt_of_cell? _ _ y10
        have lx_y11 : wx1.heap.size < wh2.heap.size := World.block_lt_of_cell? _ _ y11
        have lx_y12 : wg.heap.size < wh2.heap.size := World.block_lt_of_cell? _ _ y12
        have lt0_15 := World.block_lt_of_cell? _ _ x0
        simp only at lt0_15
        have lt1_15 := World.block_lt_of_cell? _ _ x1
        simp only at lt1_15
        have lt2_15 := World.block_lt_of_cell? _ _ y8
        simp only at lt2_15
        have lt3_15 := World.block_lt_of_cell? _ _ y10
        simp only at lt3_15
        have lt4_15 := World.block_lt_of_cell? _ _ y11
        simp only at lt4_15
        have lt5_15 := World.block_lt_of_cell? _ _ y12
        simp only at lt5_15
        have lq0 := World.block_lt_of_cell? _ _ x0
        simp only at lq0
        have lq1 := World.block_lt_of_cell? _ _ x1
        simp only at lq1
        have bb0 := Below.refl wh2.heap.size wh2
        go_upto_region 31 with fail
        go_cut [15, 16] (fun s8 s9 wx => CutR wh2 R s8 s9 wx)
        case first =>
          have bbw := BB.out
          go_region_held3 (fun w' => w'.cell? ⟨w.heap.size, 0, none⟩ = some (.slice aoa a.length ca) ∧ w'.cell? ⟨w.heap.size + 1, 0, none⟩ = some (.slice aob b.length cb))
            (((try dsimp only); (try go_split_ands); refine ⟨?_, ?_⟩ <;> (first | assumption | (rw [World.cell?_setCell_far _ _ _ _ (by first | omega | (simp <;> omega))]; assumption) | (rw [bf_.cell (by first | omega | (simp <;> omega))]; assumption) | (rw [b1_.cell (by first | omega | (simp <;> omega))]; assumption) | (rw [b0_.cell (by first | omega | (simp <;> omega))]; assumption) | (refine (((Below.refl _ _).alloc (Nat.le_refl _) _).cell (by first | omega | (simp <;> omega))).trans ((((Below.refl _ _).alloc (Nat.le_refl _) _).cell (by first | omega | (simp <;> omega))).symm.trans (by assumption))) | (go_keep; done))))
            (first
              | (go_at_call 33; ((with_reducible refine (to_whole _ a _ (Ha.out.below (by (repeat' (first | (with_reducible exact Below.refl _ _) | (with_reducible assumption) | (with_reducible refine Below.alloc ?_ ?_ _) | (with_reducible refine Below.setCell ?_ ?_ _) | (with_reducible refine Below.drew ?_) | (with_reducible refine Below.via (by assumption) ?_ ?_) | go_size)))) hla).mono ?_); rintro e wa0 ⟨u0, rfl, o0_, b0_⟩; have zq0 := b0_.size; (try simp only [World.size_alloc, World.size_drew, World.size_setCell] at zq0); obtain ⟨cb0_, fb0_⟩ := bcell b0_; (try have lc00 : wh2.heap.size < wa0.heap.size := by omega); obtain ⟨p0_, q0_, rfl⟩ := o0_.rd.shape))
              | (go_at_call 33; ((with_reducible refine (to_whole _ b _ (Hb.out.below (by (repeat' (first | (with_reducible exact Below.refl _ _) | (with_reducible assumption) | (with_reducible refine Below.alloc ?_ ?_ _) | (with_reducible refine Below.setCell ?_ ?_ _) | (with_reducible refine Below.drew ?_) | (with_reducible refine Below.via (by assumption) ?_ ?_) | go_size)))) hlb).mono ?_); rintro e wa1 ⟨u1, rfl, o1_, b1_⟩; have zq1 := b1_.size; (try simp only [World.size_alloc, World.size_drew, World.size_setCell] at zq1); obtain ⟨cb1_, fb1_⟩ := bcell b1_; (try have lc10 : wh2.heap.size < wa1.heap.size := by omega); (try have lc11 : wa0.heap.size < wa1.heap.size := by omega); obtain ⟨p1_, q1_, rfl⟩ := o1_.rd.shape))
              | (go_at_call 41; ((with_reducible refine (CommonWhole_impl _ _ a b _ (o0_.rd.below (by (repeat' (first | (with_reducible exact Below.refl _ _) | (with_reducible assumption) | (with_reducible refine Below.alloc ?_ ?_ _) | (with_reducible refine Below.setCell ?_ ?_ _) | (with_reducible refine Below.drew ?_) | (with_reducible refine Below.via (by assumption) ?_ ?_) | go_size)))) (o1_.rd.below (by (repeat' (first | (with_reducible exact Below.refl _ _) | (with_reducible assumption) | (with_reducible refine Below.alloc ?_ ?_ _) | (with_reducible refine Below.setCell ?_ ?_ _) | (with_reducible refine Below.drew ?_) | (with_reducible refine Below.via (by assumption) ?_ ?_) | go_size)))) (by omega) (by omega)).mono ?_); (try rw [HRe.out]); rintro e wf ⟨uf, rfl, of_, bf_⟩; have zqf := bf_.size; (try simp only [World.size_alloc, World.size_drew, World.size_setCell] at zqf); obtain ⟨cbf_, fbf_⟩ := bcell bf_; (try have lcf0 : wh2.heap.size < wf.heap.size := by omega); (try have lcf1 : wa0.heap.size < wf.heap.size := by omega); (try have lcf2 : wa1.heap.size < wf.heap.size := by omega); obtain ⟨pf_, qf_, rfl⟩ := of_.rd.shape))
            )
          all_goals (go_wp2_with fail; go_meet; exact ⟨_, pf_, qf_, rfl, rfl, ⟨by first | omega | (simp <;> omega), by first | omega | (simp <;> omega), by go_simp, OwI.range (by first | (with_reducible refine OwI.mono (OwI.setCell of_ ?_ _) ?_ <;> (first | omega | (simp <;> omega))) | (exact (of_.below (by (repeat' (first | (with_reducible exact Below.refl _ _) | (with_reducible assumption) | (with_reducible refine Below.alloc ?_ ?_ _) | (with_reducible refine Below.setCell ?_ ?_ _) | (with_reducible refine Below.drew ?_) | (with_reducible refine Below.via (by assumption) ?_ ?_) | go_size)))).mono (by first | omega | (simp <;> omega))))⟩, by (repeat' (first | (with_reducible exact Below.refl _ _) | (with_reducible assumption) | (with_reducible refine Below.alloc ?_ ?_ _) | (with_reducible refine Below.setCell ?_ ?_ _) | (with_reducible refine Below.drew ?_) | (with_reducible refine Below.via (by assumption) ?_ ?_) | go_size))⟩)
        case rest =>
          obtain ⟨g9, p9, q9, rfl, rfl, ⟨hg9, hg9b, y9, O9⟩, hbc⟩ := hcut
          replace O9 := Lib.hid O9
          generalize wc = wk at *
          replace OG := Lib.hid (OG.out.below hbc)
          have hB17 := (show Below wh2.heap.size wh2 wk by (repeat' (first | (with_reducible exact Below.refl _ _) | (with_reducible assumption) | (with_reducible refine Below.alloc ?_ ?_ _) | (with_reducible refine Below.setCell ?_ ?_ _) | (with_reducible refine Below.drew ?_) | (with_reducible refine Below.via (by assumption) ?_ ?_) | go_size)))
          replace x0 := (hB17.cell (p := ⟨w.heap.size, 0, none⟩) (World.block_lt_of_cell? _ _ x0)).trans x0
          replace x1 := (hB17.cell (p := ⟨w.heap.size + 1, 0, none⟩) (World.block_lt_of_cell? _ _ x1)).trans x1
          replace y8 := (hB17.cell (p := ⟨g8, 0, none⟩) (World.block_lt_of_cell? _ _ y8)).trans y8
          replace y10 := (hB17.cell (p := ⟨wx0.heap.size, 0, none⟩) (World.block_lt_of_cell? _ _ y10)).trans y10
          replace y11 := (hB17.cell (p := ⟨wx1.heap.size, 0, none⟩) (World.block_lt_of_cell? _ _ y11)).trans y11
          replace y12 := (hB17.cell (p := ⟨wg.heap.size, 0, none⟩) (World.block_lt_of_cell? _ _ y12)).trans y12
          replace O8 := Lib.hid (O8.out.below hB17)
          have zz17 := hB17.size
          replace BB := Lib.hid (show Below w.heap.size w wk from BB.out.trans (hB17.mono BB.out.size))
          clear hB17 hbc
          have lx_x0 : w.heap.size < wk.heap.size := World.block_lt_of_cell? _ _ x0
          have lx_x1 : w.heap.size + 1 < wk.heap.size := World.block_lt_of_cell? _ _ x1
          have lx_y8 : g8 < wk.heap.size := World.block_lt_of_cell? _ _ y8
          have lx_y10 : wx0.heap.size < wk.heap.size := World.block_lt_of_cell? _ _ y10
          have lx_y11 : wx1.heap.size < wk.heap.size := World.block_lt_of_cell? _ _ y11
          have lx_y12 : wg.heap.size < wk.heap.size := World.block_lt_of_cell? _ _ y12
          have OGk := Lib.hid OG.out
          go_wp2_with fail
          (go_at_call 35; ((with_reducible refine (eq_whole _ _ R.1 _ (O9.out.rd.below (by (repeat' (first | (with_reducible exact Below.refl _ _) | (with_reducible assumption) | (with_reducible refine Below.alloc ?_ ?_ _) | (with_reducible refine Below.setCell ?_ ?_ _) | (with_reducible refine Below.drew ?_) | (with_reducible refine Below.via (by assumption) ?_ ?_) | go_size)))) (O8.out.rd.below (by (repeat' (first | (with_reducible exact Below.refl _ _) | (with_reducible assumption) | (with_reducible refine Below.alloc ?_ ?_ _) | (with_reducible refine Below.setCell ?_ ?_ _) | (with_reducible refine Below.drew ?_) | (with_reducible refine Below.via (by assumption) ?_ ?_) | go_size)))) (by omega)).mono ?_); rintro e wl ⟨rfl, hb18⟩))
          replace OG := Lib.hid (OG.out.below hb18)
          have hB18 := (show Below wk.heap.size wk wl by (repeat' (first | (with_reducible exact Below.refl _ _) | (with_reducible assumption) | (with_reducible refine Below.alloc ?_ ?_ _) | (with_reducible refine Below.setCell ?_ ?_ _) | (with_reducible refine Below.drew ?_) | (with_reducible refine Below.via (by assumption) ?_ ?_) | go_size)))
          replace x0 := (hB18.cell (p := ⟨w.heap.size, 0, none⟩) (World.block_lt_of_cell? _ _ x0)).trans x0
          replace x1 := (hB18.cell (p := ⟨w.heap.size + 1, 0, none⟩) (World.block_lt_of_cell? _ _ x1)).trans x1
          replace y8 := (hB18.cell (p := ⟨g8, 0, none⟩) (World.block_lt_of_cell? _ _ y8)).trans y8
          replace y10 := (hB18.cell (p := ⟨wx0.heap.size, 0, none⟩) (World.block_lt_of_cell? _ _ y10)).trans y10
          replace y11 := (hB18.cell (p := ⟨wx1.heap.size, 0, none⟩) (World.block_lt_of_cell? _ _ y11)).trans y11
          replace y12 := (hB18.cell (p := ⟨wg.heap.size, 0, none⟩) (World.block_lt_of_cell? _ _ y12)).trans y12
          replace y9 := (hB18.cell (p := ⟨g9, 0, none⟩) (World.block_lt_of_cell? _ _ y9)).trans y9
          replace O8 := Lib.hid (O8.out.below hB18)
          replace O9 := Lib.hid (O9.out.below hB18)
          have zz18 := hB18.size
          replace BB := Lib.hid (show Below w.heap.size w wl from BB.out.trans (hB18.mono BB.out.size))
          clear hB18 hb18
          have lx_x0 : w.heap.size < wl.heap.size := World.block_lt_of_cell? _ _ x0
          have lx_x1 : w.heap.size + 1 < wl.heap.size := World.block_lt_of_cell? _ _ x1
          have lx_y8 : g8 < wl.heap.size := World.block_lt_of_cell? _ _ y8
          have lx_y10 : wx0.heap.size < wl.heap.size := World.block_lt_of_cell? _ _ y10
          have lx_y11 : wx1.heap.size < wl.heap.size := World.block_lt_of_cell? _ _ y11
          have lx_y12 : wg.heap.size < wl.heap.size := World.block_lt_of_cell? _ _ y12
          have lx_y9 : g9 < wl.heap.size := World.block_lt_of_cell? _ _ y9
          go_wp2_with fail
          (go_at_call 37; ((with_reducible refine (held_whole _ R.1.length 1 _ (OG.out.rd.below (by (repeat' (first | (with_reducible exact Below.refl _ _) | (with_reducible assumption) | (with_reducible refine Below.alloc ?_ ?_ _) | (with_reducible refine Below.setCell ?_ ?_ _) | (with_reducible refine Below.drew ?_) | (with_reducible refine Below.via (by assumption) ?_ ?_) | go_size)))) (by omega) (by omega) (by omega)).mono ?_); rintro e wn ⟨rfl, hb19⟩))
          replace OG := Lib.hid (OG.out.below (show Below wl.heap.size wl wn by (repeat' (first | (with_reducible exact Below.refl _ _) | (with_reducible assumption) | (with_reducible refine Below.alloc ?_ ?_ _) | (with_reducible refine Below.setCell ?_ ?_ _) | (with_reducible refine Below.drew ?_) | (with_reducible refine Below.via (by assumption) ?_ ?_) | go_size))))
          have hB19 := (show Below wl.heap.size wl wn by (repeat' (first | (with_reducible exact Below.refl _ _) | (with_reducible assumption) | (with_reducible refine Below.alloc ?_ ?_ _) | (with_reducible refine Below.setCell ?_ ?_ _) | (with_reducible refine Below.drew ?_) | (with_reducible refine Below.via (by assumption) ?_ ?_) | go_size)))
          replace x0 := (hB19.cell (p := ⟨w.heap.size, 0, none⟩) (World.block_lt_of_cell? _ _ x0)).trans x0
          replace x1 := (hB19.cell (p := ⟨w.heap.size + 1, 0, none⟩) (World.block_lt_of_cell? _ _ x1)).trans x1
          replace y8 := (hB19.cell (p := ⟨g8, 0, none⟩) (World.block_lt_of_cell? _ _ y8)).trans y8
          replace y10 := (hB19.cell (p := ⟨wx0.heap.size, 0, none⟩) (World.block_lt_of_cell? _ _ y10)).trans y10
          replace y11 := (hB19.cell (p := ⟨wx1.heap.size, 0, none⟩) (World.block_lt_of_cell? _ _ y11)).trans y11
          replace y12 := (hB19.cell (p := ⟨wg.heap.size, 0, none⟩) (World.block_lt_of_cell? _ _ y12)).trans y12
          replace y9 := (hB19.cell (p := ⟨g9, 0, none⟩) (World.block_lt_of_cell? _ _ y9)).trans y9
          replace O8 := Lib.hid (O8.out.below hB19)
          replace O9 := Lib.hid (O9.out.below hB19)
          have zz19 := hB19.size
          replace BB := Lib.hid (show Below w.heap.size w wn from BB.out.trans (hB19.mono BB.out.size))
          clear hB19 hb19
          have lx_x0 : w.heap.size < wn.heap.size := World.block_lt_of_cell? _ _ x0
          have lx_x1 : w.heap.size + 1 < wn.heap.size := World.block_lt_of_cell? _ _ x1
          have lx_y8 : g8 < wn.heap.size := World.block_lt_of_cell? _ _ y8
          have lx_y10 : wx0.heap.size < wn.heap.size := World.block_lt_of_cell? _ _ y10
          have lx_y11 : wx1.heap.size < wn.heap.size := World.block_lt_of_cell? _ _ y11
          have lx_y12 : wg.heap.size < wn.heap.size := World.block_lt_of_cell? _ _ y12
          have lx_y9 : g9 < wn.heap.size := World.block_lt_of_cell? _ _ y9
          go_wp2_with fail
          go_ret
          exact ⟨rfl, BB.out⟩

end Go.Proofs.Ytlnjkjogedbhfaa
