/- FnExactFactorsOver returns true for all arguments. Conditions: none. -/
import Derived.Test.YtlnjkjogedbhfaaIL3
import Derived.Test.YtlnjkjogedbhfaaIL4
import Derived.Test.YtlnjkjogedbhfaaIWs
import Derived.Test.YtlnjkjogedbhfaaI61
import Derived.Test.YtlnjkjogedbhfaaI62
namespace Go.Proofs.Ytlnjkjogedbhfaa
open Go Go.RowKit
set_option linter.unusedSimpArgs false
set_option linter.unusedVariables false

set_option maxRecDepth 100000 in
set_option maxHeartbeats 8000000 in
theorem law_FactorsOver (va : Value) (a : List Int) (m : Int) (w : World) (ha : RdI w va a) : Calls Try.prog 10 #[.agg #[va], .int .i64 m] w (RB true w) := by
  have Ha := Lib.hid ha
  obtain ⟨aoa, ca, rfl⟩ := ha.shape
  clear ha
  have x0 : (w.alloc (.cells #[.slice aoa a.length ca] 42)).cell? ⟨w.heap.size, 0, none⟩ = some (.slice aoa a.length ca) := by go_simp
  have BB := Lib.hid (show Below w.heap.size w (w.alloc (.cells #[.slice aoa a.length ca] 42)) by (repeat' (first | (with_reducible exact Below.refl _ _) | (with_reducible assumption) | (with_reducible refine Below.alloc ?_ ?_ _) | (with_reducible refine Below.setCell ?_ ?_ _) | (with_reducible refine Below.drew ?_) | (with_reducible refine Below.via (by assumption) ?_ ?_) | go_size)))
  by_cases hbig : (1048576 : Int) - a.length < 0
  · have Hs := Lib.hid (szF_neg hbig)
    go_enter Try.func10, Try.ntmps10
    go_wp2_with fail
    (go_at_call 31; ((with_reducible refine (sz_whole _ a 1048576 _ (Ha.out.below (by (repeat' (first | (with_reducible exact Below.refl _ _) | (with_reducible assumption) | (with_reducible refine Below.alloc ?_ ?_ _) | (with_reducible refine Below.setCell ?_ ?_ _) | (with_reducible refine Below.drew ?_) | (with_reducible refine Below.via (by assumption) ?_ ?_) | go_size)))) (by omega) (by omega)).mono ?_); rintro e w1 ⟨rfl, hb1⟩))
    rw [Hs.out]
    replace x0 := (hb1.cell (p := ⟨w.heap.size, 0, none⟩) (World.block_lt_of_cell? _ _ x0)).trans x0
    replace BB := Lib.hid (BB.out.trans (hb1.mono BB.out.size))
    have zz1 := hb1.size
    (try simp only [World.size_alloc] at zz1)
    have lx0_1 := World.block_lt_of_cell? _ _ x0
    simp only at lx0_1
    clear hb1
    go_wp2_with fail
    go_ret
    exact ⟨rfl, BB.out⟩
  have Hs := Lib.hid (szF_pos hbig)
  have hla : a.length ≤ 1048576 := by omega
  have hL : ((facR m a).getD []).length ≤ 40 ∧ ∀ i, (((facR m a).getD []).getD i []).length ≤ 17 := facR_len m a
  have HL2 := Lib.hid (fun i => Nat.le_trans (hL.2 i) (show 17 ≤ 1048576 by omega))
  have HL3 := Lib.hid (fun i => Nat.le_trans (hL.2 i) (show 17 ≤ 1099511627776 by omega))
  have hL1 := hL.1
  have hpre := preL_bd hL.2 ((facR m a).getD []).length
  have hpre2 : preL ((facR m a).getD []) ((facR m a).getD []).length ≤ 40 * 17 := Nat.le_trans hpre (Nat.mul_le_mul_right 17 hL1)
  have Hspec := Lib.hid (fun (v : Value) (w : World) (h : RdI w v a) => FactorsOver_spec v a m w h (by omega))
  have Himpl := Lib.hid (fun (v : Value) (w : World) (h : RdI w v a) => FactorsOver_impl v a m w h (by omega))
  generalize hFe : facR m a = F at *
  generalize hLe : F.getD [] = ls at *
  have HLe := Lib.hid hLe
  clear hFe hLe hpre hL
  go_enter Try.func10, Try.ntmps10
  go_wp2_with fail
  (go_at_call 31; ((with_reducible refine (sz_whole _ a 1048576 _ (Ha.out.below (by (repeat' (first | (with_reducible exact Below.refl _ _) | (with_reducible assumption) | (with_reducible refine Below.alloc ?_ ?_ _) | (with_reducible refine Below.setCell ?_ ?_ _) | (with_reducible refine Below.drew ?_) | (with_reducible refine Below.via (by assumption) ?_ ?_) | go_size)))) (by omega) (by omega)).mono ?_); rintro e w1 ⟨rfl, hb1⟩))
  rw [Hs.out]
  replace x0 := (hb1.cell (p := ⟨w.heap.size, 0, none⟩) (World.block_lt_of_cell? _ _ x0)).trans x0
  replace BB := Lib.hid (BB.out.trans (hb1.mono BB.out.size))
  have zz1 := hb1.size
  (try simp only [World.size_alloc] at zz1)
  have lx0_1 := World.block_lt_of_cell? _ _ x0
  simp only at lx0_1
  clear hb1 hbig
  go_wp2_with fail
  (go_at_call 33; ((with_reducible refine (to_whole _ a _ (Ha.out.below (by have h := BB.out; have h2 := h.size; (repeat' (first | (with_reducible exact Below.refl _ _) | (with_reducible assumption) | (with_reducible refine Below.alloc ?_ ?_ _) | (with_reducible refine Below.setCell ?_ ?_ _) | (with_reducible refine Below.drew ?_) | (with_reducible refine Below.via (by assumption) ?_ ?_) | go_size)))) (by omega)).mono ?_); rintro e w2 ⟨v2, rfl, o2, hb2⟩))
  replace x0 := (hb2.cell (p := ⟨w.heap.size, 0, none⟩) (World.block_lt_of_cell? _ _ x0)).trans x0
  replace BB := Lib.hid (BB.out.trans (hb2.mono BB.out.size))
  have zz2 := hb2.size
  (try simp only [World.size_alloc] at zz2)
  have lx0_2 := World.block_lt_of_cell? _ _ x0
  simp only at lx0_2
  have R2 := Lib.hid o2.rd
  obtain ⟨p2, n2, rfl⟩ := o2.rd.shape
  clear o2 hb2
  go_wp2_with fail
  (go_at_call 47; ((with_reducible refine (Hspec.out _ _ R2.out).mono ?_); rintro e w3 ⟨v3, rfl, o3, hb3⟩))
  rw [HLe.out] at o3
  replace x0 := (hb3.cell (p := ⟨w.heap.size, 0, none⟩) (World.block_lt_of_cell? _ _ x0)).trans x0
  replace BB := Lib.hid (BB.out.trans (hb3.mono BB.out.size))
  have zz3 := hb3.size
  (try simp only [World.size_alloc] at zz3)
  have lx0_3 := World.block_lt_of_cell? _ _ x0
  simp only at lx0_3
  have OS := Lib.hid o3
  have RS3 := Lib.hid o3.rd
  obtain ⟨p3, n3, rfl⟩ := o3.rd.shape
  clear o3 hb3 R2 RS3
  go_wp2_with fail
  (go_at_call 33; ((with_reducible refine (to_whole _ a _ (Ha.out.below (by have h := BB.out; have h2 := h.size; (repeat' (first | (with_reducible exact Below.refl _ _) | (with_reducible assumption) | (with_reducible refine Below.alloc ?_ ?_ _) | (with_reducible refine Below.setCell ?_ ?_ _) | (with_reducible refine Below.drew ?_) | (with_reducible refine Below.via (by assumption) ?_ ?_) | go_size)))) (by omega)).mono ?_); rintro e w4 ⟨v4, rfl, o4, hb4⟩))
  replace x0 := (hb4.cell (p := ⟨w.heap.size, 0, none⟩) (World.block_lt_of_cell? _ _ x0)).trans x0
  replace OS := Lib.hid (OS.out.below hb4)
  replace BB := Lib.hid (BB.out.trans (hb4.mono BB.out.size))
  have zz4 := hb4.size
  (try simp only [World.size_alloc] at zz4)
  have lx0_4 := World.block_lt_of_cell? _ _ x0
  simp only at lx0_4
  obtain ⟨p4, n4, rfl⟩ := o4.rd.shape
  have OX := Lib.hid o4.range
  clear o4 hb4
  go_wp2_with fail
  (go_at_call 48; ((with_reducible refine (Himpl.out _ _ (OX.out.rd.below (by (repeat' (first | (with_reducible exact Below.refl _ _) | (with_reducible assumption) | (with_reducible refine Below.alloc ?_ ?_ _) | (with_reducible refine Below.setCell ?_ ?_ _) | (with_reducible refine Below.drew ?_) | (with_reducible refine Below.via (by assumption) ?_ ?_) | go_size))))).mono ?_); rintro e w5 ⟨v5, rfl, ow5, hbw5⟩))
  rw [HLe.out] at ow5
  have hb45 := (show Below w4.heap.size w4 w5 by (repeat' (first | (with_reducible exact Below.refl _ _) | (with_reducible assumption) | (with_reducible refine Below.alloc ?_ ?_ _) | (with_reducible refine Below.setCell ?_ ?_ _) | (with_reducible refine Below.drew ?_) | (with_reducible refine Below.via (by assumption) ?_ ?_) | go_size)))
  have x6 : w5.cell? ⟨w4.heap.size, 0, none⟩ = some (.slice p4 a.length n4) := (hbw5.cell (p := ⟨w4.heap.size, 0, none⟩) (by simp)).trans (World.cell?_alloc_new w4 _ _ 0 : _)
  replace x0 := (hb45.cell (p := ⟨w.heap.size, 0, none⟩) (World.block_lt_of_cell? _ _ x0)).trans x0
  replace OS := Lib.hid (OS.out.below hb45)
  replace OX := Lib.hid (OX.out.below hb45)
  replace BB := Lib.hid (BB.out.trans (hb45.mono BB.out.size))
  have zz5 := hb45.size
  (try simp only [World.size_alloc] at zz5)
  have lx0_5 := World.block_lt_of_cell? _ _ x0
  simp only at lx0_5
  have lx6_0 := World.block_lt_of_cell? _ _ x6
  simp only at lx6_0
  have OG := Lib.hid (show OwWs w5 (w4.heap.size + 1) w5.heap.size v5 ls by simpa using ow5)
  obtain ⟨p5, n5, rfl⟩ := ow5.rd.shape
  clear ow5 hbw5 hb45
  go_wp2_with fail
  (go_at_call 44; ((with_reducible refine (eq_wholeS _ _ ls _ (OG.out.rd.below (by (repeat' (first | (with_reducible exact Below.refl _ _) | (with_reducible assumption) | (with_reducible refine Below.alloc ?_ ?_ _) | (with_reducible refine Below.setCell ?_ ?_ _) | (with_reducible refine Below.drew ?_) | (with_reducible refine Below.via (by assumption) ?_ ?_) | go_size)))) (OS.out.rd.below (by (repeat' (first | (with_reducible exact Below.refl _ _) | (with_reducible assumption) | (with_reducible refine Below.alloc ?_ ?_ _) | (with_reducible refine Below.setCell ?_ ?_ _) | (with_reducible refine Below.drew ?_) | (with_reducible refine Below.via (by assumption) ?_ ?_) | go_size)))) (by omega) HL3.out).mono ?_); rintro e w6 ⟨rfl, hbw6⟩))
  replace x0 := (hbw6.cell (p := ⟨w.heap.size, 0, none⟩) (World.block_lt_of_cell? _ _ x0)).trans x0
  replace x6 := (hbw6.cell (p := ⟨w4.heap.size, 0, none⟩) (World.block_lt_of_cell? _ _ x6)).trans x6
  replace OS := Lib.hid (OS.out.below hbw6)
  replace OX := Lib.hid (OX.out.below hbw6)
  replace OG := Lib.hid (OG.out.below hbw6)
  replace BB := Lib.hid (BB.out.trans (hbw6.mono BB.out.size))
  have zz6 := hbw6.size
  (try simp only [World.size_alloc] at zz6)
  have lx0_6 := World.block_lt_of_cell? _ _ x0
  simp only at lx0_6
  have lx6_6 := World.block_lt_of_cell? _ _ x6
  simp only at lx6_6
  clear hbw6
  go_wp2_with fail
  have lt_x0 := World.block_lt_of_cell? _ _ x0
  simp only at lt_x0
  have lt_x6 := World.block_lt_of_cell? _ _ x6
  simp only at lt_x6
  go_region_held3 (fun w' => w'.cell? ⟨w4.heap.size, 0, none⟩ = some (.slice p4 a.length n4) ∧ w'.cell? ⟨w.heap.size, 0, none⟩ = some (.slice aoa a.length ca))
    (((try dsimp only); (try go_split_ands); refine ⟨?_, ?_⟩ <;> (first | assumption | (rw [hbe.cell (by first | omega | (simp <;> omega))]; assumption) | (rw [hbd.cell (by first | omega | (simp <;> omega))]; assumption) | (go_keep; done))))
    (first
      | (go_at_call 33; ((with_reducible refine (to_whole _ a _ (Ha.out.below (by have h := BB.out; have h2 := h.size; (repeat' (first | (with_reducible exact Below.refl _ _) | (with_reducible assumption) | (with_reducible refine Below.alloc ?_ ?_ _) | (with_reducible refine Below.setCell ?_ ?_ _) | (with_reducible refine Below.drew ?_) | (with_reducible refine Below.via (by assumption) ?_ ?_) | go_size)))) (by omega)).mono ?_); rintro e wd ⟨vd, rfl, od, hbd⟩; have zzd := hbd.size; (try simp only [World.size_alloc, World.size_drew, World.size_setCell] at zzd); obtain ⟨pd, qd, rfl⟩ := od.rd.shape))
      | (go_at_call 35; ((with_reducible refine (eq_whole _ _ a _ (OX.out.rd.below (by (repeat' (first | (with_reducible exact Below.refl _ _) | (with_reducible assumption) | (with_reducible refine Below.alloc ?_ ?_ _) | (with_reducible refine Below.setCell ?_ ?_ _) | (with_reducible refine Below.drew ?_) | (with_reducible refine Below.via (by assumption) ?_ ?_) | go_size)))) (od.rd.below (by (repeat' (first | (with_reducible exact Below.refl _ _) | (with_reducible assumption) | (with_reducible refine Below.alloc ?_ ?_ _) | (with_reducible refine Below.setCell ?_ ?_ _) | (with_reducible refine Below.drew ?_) | (with_reducible refine Below.via (by assumption) ?_ ?_) | go_size)))) (by omega)).mono ?_); rintro e we ⟨rfl, hbe⟩; have zze := hbe.size; (try simp only [World.size_alloc, World.size_drew, World.size_setCell] at zze))))
  have hB6e := (show Below w6.heap.size w6 we by (repeat' (first | (with_reducible exact Below.refl _ _) | (with_reducible assumption) | (with_reducible refine Below.alloc ?_ ?_ _) | (with_reducible refine Below.setCell ?_ ?_ _) | (with_reducible refine Below.drew ?_) | (with_reducible refine Below.via (by assumption) ?_ ?_) | go_size)))
  replace x0 := (hB6e.cell (p := ⟨w.heap.size, 0, none⟩) (World.block_lt_of_cell? _ _ x0)).trans x0
  replace x6 := (hB6e.cell (p := ⟨w4.heap.size, 0, none⟩) (World.block_lt_of_cell? _ _ x6)).trans x6
  replace OS := Lib.hid (OS.out.below hB6e)
  replace OX := Lib.hid (OX.out.below hB6e)
  replace OG := Lib.hid (OG.out.below hB6e)
  replace BB := Lib.hid (BB.out.trans (hB6e.mono BB.out.size))
  have zz7 := hB6e.size
  (try simp only [World.size_alloc] at zz7)
  have lx0_7 := World.block_lt_of_cell? _ _ x0
  simp only at lx0_7
  have lx6_7 := World.block_lt_of_cell? _ _ x6
  simp only at lx6_7
  clear hB6e hbd hbe od
  go_wp2_with fail
  (go_at_call 36; ((with_reducible refine (mark_whole _ a w3.heap.size w4.heap.size 1 _ OX.out (by omega) (by omega) (by omega)).mono ?_); rintro e wm ⟨rfl, om, hm⟩))
  clear om
  replace x0 := (hm.cell (p := ⟨w.heap.size, 0, none⟩) (World.block_lt_of_cell? _ _ x0) (by simp only; omega)).trans x0
  replace x6 := (hm.cell (p := ⟨w4.heap.size, 0, none⟩) (World.block_lt_of_cell? _ _ x6) (by simp only; omega)).trans x6
  replace OS := Lib.hid (OS.out.only hm (by omega))
  replace OG := Lib.hid (OG.out.only hm (by omega))
  replace BB := Lib.hid (BB.out.trans (hm.toBelow (by omega) BB.out.size))
  have zz8 := hm.size
  have lx0_8 := World.block_lt_of_cell? _ _ x0
  simp only at lx0_8
  have lx6_8 := World.block_lt_of_cell? _ _ x6
  simp only at lx6_8
  clear hm OX
  have hk0 : ¬ ((1 : Int) + a.length < 0) := by omega
  go_wp2_with fail
  (go_at_call 44; ((with_reducible refine (eq_wholeS _ _ ls _ (OG.out.rd.below (by (repeat' (first | (with_reducible exact Below.refl _ _) | (with_reducible assumption) | (with_reducible refine Below.alloc ?_ ?_ _) | (with_reducible refine Below.setCell ?_ ?_ _) | (with_reducible refine Below.drew ?_) | (with_reducible refine Below.via (by assumption) ?_ ?_) | go_size)))) (OS.out.rd.below (by (repeat' (first | (with_reducible exact Below.refl _ _) | (with_reducible assumption) | (with_reducible refine Below.alloc ?_ ?_ _) | (with_reducible refine Below.setCell ?_ ?_ _) | (with_reducible refine Below.drew ?_) | (with_reducible refine Below.via (by assumption) ?_ ?_) | go_size)))) (by omega) HL3.out).mono ?_); rintro e w7 ⟨rfl, hbw7⟩))
  replace x0 := (hbw7.cell (p := ⟨w.heap.size, 0, none⟩) (World.block_lt_of_cell? _ _ x0)).trans x0
  replace x6 := (hbw7.cell (p := ⟨w4.heap.size, 0, none⟩) (World.block_lt_of_cell? _ _ x6)).trans x6
  replace OS := Lib.hid (OS.out.below hbw7)
  replace OG := Lib.hid (OG.out.below hbw7)
  replace BB := Lib.hid (BB.out.trans (hbw7.mono BB.out.size))
  have zz9 := hbw7.size
  (try simp only [World.size_alloc] at zz9)
  have lx0_9 := World.block_lt_of_cell? _ _ x0
  simp only at lx0_9
  have lx6_9 := World.block_lt_of_cell? _ _ x6
  simp only at lx6_9
  clear hbw7
  have hk1 : ¬ ((1 : Int) + preL ls ls.length < 0) := by omega
  have H1L := Lib.hid (show (1 : Int) + preL ls ls.length ≤ 1099511627776 by omega)
  go_wp2_with fail
  (go_at_call 45; ((with_reducible refine (mark_wholeS _ ls (w4.heap.size + 1) w5.heap.size 1 _ OG.out (by omega) HL2.out (by omega) H1L.out).mono ?_); rintro e wq ⟨rfl, og, hq⟩))
  replace x0 := (hq.cell (p := ⟨w.heap.size, 0, none⟩) (World.block_lt_of_cell? _ _ x0) (by simp only; omega)).trans x0
  replace x6 := (hq.cell (p := ⟨w4.heap.size, 0, none⟩) (World.block_lt_of_cell? _ _ x6) (by simp only; omega)).trans x6
  replace OS := Lib.hid (OS.out.only hq (by omega))
  replace BB := Lib.hid (BB.out.trans (hq.toBelow (by omega) BB.out.size))
  have zz10 := hq.size
  have lx0_10 := World.block_lt_of_cell? _ _ x0
  simp only at lx0_10
  have lx6_10 := World.block_lt_of_cell? _ _ x6
  simp only at lx6_10
  have OM := Lib.hid og
  clear hq og OG
  go_wp2_with fail
  (go_at_call 46; ((with_reducible refine (held_wholeS _ ls 1 _ (OM.out.rd.below (by (repeat' (first | (with_reducible exact Below.refl _ _) | (with_reducible assumption) | (with_reducible refine Below.alloc ?_ ?_ _) | (with_reducible refine Below.setCell ?_ ?_ _) | (with_reducible refine Below.drew ?_) | (with_reducible refine Below.via (by assumption) ?_ ?_) | go_size)))) (by omega) HL2.out (by omega) H1L.out).mono ?_); rintro e w' ⟨rfl, rfl⟩))
  go_wp2_with fail
  (go_at_call 33; ((with_reducible refine (to_whole _ a _ (Ha.out.below (by have h := BB.out; have h2 := h.size; (repeat' (first | (with_reducible exact Below.refl _ _) | (with_reducible assumption) | (with_reducible refine Below.alloc ?_ ?_ _) | (with_reducible refine Below.setCell ?_ ?_ _) | (with_reducible refine Below.drew ?_) | (with_reducible refine Below.via (by assumption) ?_ ?_) | go_size)))) (by omega)).mono ?_); rintro e w8 ⟨v8, rfl, o8, hb8⟩))
  replace x0 := (hb8.cell (p := ⟨w.heap.size, 0, none⟩) (World.block_lt_of_cell? _ _ x0)).trans x0
  replace x6 := (hb8.cell (p := ⟨w4.heap.size, 0, none⟩) (World.block_lt_of_cell? _ _ x6)).trans x6
  replace OS := Lib.hid (OS.out.below hb8)
  replace OM := Lib.hid (OM.out.below hb8)
  replace BB := Lib.hid (BB.out.trans (hb8.mono BB.out.size))
  have zz11 := hb8.size
  (try simp only [World.size_alloc] at zz11)
  have lx0_11 := World.block_lt_of_cell? _ _ x0
  simp only at lx0_11
  have lx6_11 := World.block_lt_of_cell? _ _ x6
  simp only at lx6_11
  have R8 := Lib.hid o8.rd
  obtain ⟨p8, n8, rfl⟩ := o8.rd.shape
  clear o8 hb8
  go_wp2_with fail
  (go_at_call 48; ((with_reducible refine (Himpl.out _ _ (R8.out.below (by (repeat' (first | (with_reducible exact Below.refl _ _) | (with_reducible assumption) | (with_reducible refine Below.alloc ?_ ?_ _) | (with_reducible refine Below.setCell ?_ ?_ _) | (with_reducible refine Below.drew ?_) | (with_reducible refine Below.via (by assumption) ?_ ?_) | go_size))))).mono ?_); rintro e w9 ⟨v9, rfl, ow9, hbw9⟩))
  rw [HLe.out] at ow9
  replace x0 := (hbw9.cell (p := ⟨w.heap.size, 0, none⟩) (World.block_lt_of_cell? _ _ x0)).trans x0
  replace x6 := (hbw9.cell (p := ⟨w4.heap.size, 0, none⟩) (World.block_lt_of_cell? _ _ x6)).trans x6
  replace OS := Lib.hid (OS.out.below hbw9)
  replace OM := Lib.hid (OM.out.below hbw9)
  replace BB := Lib.hid (BB.out.trans (hbw9.mono BB.out.size))
  have zz12 := hbw9.size
  (try simp only [World.size_alloc] at zz12)
  have lx0_12 := World.block_lt_of_cell? _ _ x0
  simp only at lx0_12
  have lx6_12 := World.block_lt_of_cell? _ _ x6
  simp only at lx6_12
  have OH := Lib.hid ow9
  obtain ⟨p9, n9, rfl⟩ := ow9.rd.shape
  clear ow9 hbw9 R8
  go_wp2_with fail
  (go_at_call 44; ((with_reducible refine (eq_wholeS _ _ ls _ (OH.out.rd.below (by (repeat' (first | (with_reducible exact Below.refl _ _) | (with_reducible assumption) | (with_reducible refine Below.alloc ?_ ?_ _) | (with_reducible refine Below.setCell ?_ ?_ _) | (with_reducible refine Below.drew ?_) | (with_reducible refine Below.via (by assumption) ?_ ?_) | go_size)))) (OS.out.rd.below (by (repeat' (first | (with_reducible exact Below.refl _ _) | (with_reducible assumption) | (with_reducible refine Below.alloc ?_ ?_ _) | (with_reducible refine Below.setCell ?_ ?_ _) | (with_reducible refine Below.drew ?_) | (with_reducible refine Below.via (by assumption) ?_ ?_) | go_size)))) (by omega) HL3.out).mono ?_); rintro e w10 ⟨rfl, hbw10⟩))
  replace x0 := (hbw10.cell (p := ⟨w.heap.size, 0, none⟩) (World.block_lt_of_cell? _ _ x0)).trans x0
  replace x6 := (hbw10.cell (p := ⟨w4.heap.size, 0, none⟩) (World.block_lt_of_cell? _ _ x6)).trans x6
  replace OS := Lib.hid (OS.out.below hbw10)
  replace OM := Lib.hid (OM.out.below hbw10)
  replace OH := Lib.hid (OH.out.below hbw10)
  replace BB := Lib.hid (BB.out.trans (hbw10.mono BB.out.size))
  have zz13 := hbw10.size
  (try simp only [World.size_alloc] at zz13)
  have lx0_13 := World.block_lt_of_cell? _ _ x0
  simp only at lx0_13
  have lx6_13 := World.block_lt_of_cell? _ _ x6
  simp only at lx6_13
  clear hbw10
  go_wp2_with fail
  (go_at_call 46; ((with_reducible refine (held_wholeS _ ls 1 _ (OM.out.rd.below (by (repeat' (first | (with_reducible exact Below.refl _ _) | (with_reducible assumption) | (with_reducible refine Below.alloc ?_ ?_ _) | (with_reducible refine Below.setCell ?_ ?_ _) | (with_reducible refine Below.drew ?_) | (with_reducible refine Below.via (by assumption) ?_ ?_) | go_size)))) (by omega) HL2.out (by omega) H1L.out).mono ?_); rintro e w' ⟨rfl, rfl⟩))
  go_wp2_with fail
  go_ret
  exact ⟨rfl, BB.out⟩

end Go.Proofs.Ytlnjkjogedbhfaa
