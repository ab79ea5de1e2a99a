/- LiftPair of the program: its head. Conditions: lengths of at most 2^40. -/
import Derived.Test.YtlnjkjogedbhfaaI53a
import Derived.Test.YtlnjkjogedbhfaaI17
import Derived.Deep.RegionWith
import Derived.Deep.RegionHeld3
namespace Go.Proofs.Ytlnjkjogedbhfaa
open Go Go.RowKit
set_option linter.unusedSimpArgs false
set_option linter.unusedVariables false

set_option maxRecDepth 100000 in
set_option maxHeartbeats 20000000 in
theorem LiftPair_head (T : LT3) (vp vg vh : Value) (p g h : List Int) (m : Int) (w : World) (hp : RdI w vp p) (hg : RdI w vg g) (hh : RdI w vh h) (hlp : p.length ≤ 1099511627776) (hlg : g.length ≤ 1099511627776) (hlh : h.length ≤ 1099511627776) : Calls Try.prog 18 #[.agg #[vp], .agg #[vg], .agg #[vh], .int .i64 m] w (RLift (liftR m p g h) w) := by
  have Hp := Lib.hid hp
  have Hg := Lib.hid hg
  have Hh := Lib.hid hh
  obtain ⟨pp, qp, rfl⟩ := hp.shape
  obtain ⟨pg, qg, rfl⟩ := hg.shape
  obtain ⟨ph, qh, rfl⟩ := hh.shape
  clear hp hg hh
  have Hl2 := Lib.hid (show ∀ i, ([g, h].getD i []).length ≤ 1099511627776 from fun i => by
    match i with
    | 0 => simpa using hlg
    | 1 => simpa using hlh
    | i + 2 => simp)
  go_enter Try.func18, Try.ntmps18
  go_wp2_with fail
  generalize hW : World.alloc _ _ = W0
  have Hw := Lib.hid hW
  clear hW
  have x4 : W0.cell? ⟨w.heap.size, 0, none⟩ = some (.slice pp p.length qp) := by rw [← Hw.out]; go_simp
  have x5 : W0.cell? ⟨w.heap.size + 1, 0, none⟩ = some (.slice pg g.length qg) := by rw [← Hw.out]; go_simp
  have x6 : W0.cell? ⟨w.heap.size + 1 + 1, 0, none⟩ = some (.slice ph h.length qh) := by rw [← Hw.out]; go_simp
  have x7 : W0.cell? ⟨w.heap.size + 1 + 1 + 1, 0, none⟩ = some (.int .i64 m) := by rw [← Hw.out]; go_simp
  have x8 : W0.cell? ⟨w.heap.size + 1 + 1 + 1 + 1, 0, none⟩ = some (.slice none 0 0) := by rw [← Hw.out]; go_simp
  have x9 : W0.cell? ⟨w.heap.size + 1 + 1 + 1 + 1 + 1, 0, none⟩ = some (.slice none 0 0) := by rw [← Hw.out]; go_simp
  have y8 : W0.frozen? ⟨w.heap.size + 1 + 1 + 1 + 1, 0, none⟩ = false := by rw [← Hw.out]; go_simp
  have y9 : W0.frozen? ⟨w.heap.size + 1 + 1 + 1 + 1 + 1, 0, none⟩ = false := by rw [← Hw.out]; go_simp
  have HB := Lib.hid (show LB w m p g h pp qp pg qg ph qh W0 from ⟨x4, x5, x6, x7, x8, y8, x9, y9, by rw [← Hw.out]; (repeat' (first | (with_reducible exact Below.refl _ _) | (with_reducible assumption) | (with_reducible refine Below.alloc ?_ ?_ _) | (with_reducible refine Below.setCell ?_ ?_ _) | (with_reducible refine Below.drew ?_) | (with_reducible refine Below.via (by assumption) ?_ ?_) | go_size))⟩)
  clear x4 x5 x6 x7 x8 x9 y8 y9 Hw
  (go_at_call 24; ((with_reducible refine (valid_impl _ p _ (Hp.out.below HB.out.bel) hlp).mono ?_); rintro e w1 ⟨rfl, hb1⟩))
  replace HB := Lib.hid (HB.out.below hb1)
  clear hb1
  cases hv : validB p
  · skip
    have Ho := Lib.hid (show liftR m p g h = ([], [], false) by rw [liftR, if_neg (by simp [liftOk, hv])])
    have x4 := HB.out.c4
    have l4 := World.block_lt_of_cell? _ _ x4
    have x5 := HB.out.c5
    have l5 := World.block_lt_of_cell? _ _ x5
    have x6 := HB.out.c6
    have l6 := World.block_lt_of_cell? _ _ x6
    have x7 := HB.out.c7
    have l7 := World.block_lt_of_cell? _ _ x7
    have x8 := HB.out.c8
    have l8 := World.block_lt_of_cell? _ _ x8
    have x9 := HB.out.c9
    have l9 := World.block_lt_of_cell? _ _ x9
    simp only at l4 l5 l6 l7 l8 l9
    have y8 := HB.out.f8
    have y9 := HB.out.f9
    go_wp2_with fail
    (try simp only [Exit.inBlock, Exit.then]); refine bodyPost_ret (by simp [results, Try.results18, go_sem, *]; try rfl) rfl ?_
    rw [Ho.out]
    exact ⟨_, _, w.heap.size, rfl, Nat.le_refl _, by have h1 := HB.out.bel.size; (try simp only [World.size_setCell, World.size_alloc, World.size_drew]); omega, OwR.nil _ _ _, OwR.nil _ _ _, by have h1 := HB.out.bel; have h2 := h1.size; (repeat' (first | (with_reducible exact Below.refl _ _) | (with_reducible assumption) | (with_reducible refine Below.alloc ?_ ?_ _) | (with_reducible refine Below.setCell ?_ ?_ _) | (with_reducible refine Below.drew ?_) | (with_reducible refine Below.via (by assumption) ?_ ?_) | go_size))⟩
  have hpn := Lib.hid ((validB_ne hv).1)
  have x4 := HB.out.c4
  have l4 := World.block_lt_of_cell? _ _ x4
  have x5 := HB.out.c5
  have l5 := World.block_lt_of_cell? _ _ x5
  have x6 := HB.out.c6
  have l6 := World.block_lt_of_cell? _ _ x6
  have x7 := HB.out.c7
  have l7 := World.block_lt_of_cell? _ _ x7
  have x8 := HB.out.c8
  have l8 := World.block_lt_of_cell? _ _ x8
  have x9 := HB.out.c9
  have l9 := World.block_lt_of_cell? _ _ x9
  simp only at l4 l5 l6 l7 l8 l9
  have y8 := HB.out.f8
  have y9 := HB.out.f9
  go_wp2_with fail
  with_reducible refine (areOver_impl _ [g, h] m _ ?lit (by simp) Hl2.out).mono ?_
  case lit => exact RdWs.lit2 (by simp) (Hg.out.below HB.out.bel) (Hh.out.below HB.out.bel)
  rintro e w2 ⟨rfl, hb2⟩
  rw [areOverB_two]
  replace hb2 := (show Below w1.heap.size w1 w2 by (repeat' (first | (with_reducible exact Below.refl _ _) | (with_reducible assumption) | (with_reducible refine Below.alloc ?_ ?_ _) | (with_reducible refine Below.setCell ?_ ?_ _) | (with_reducible refine Below.drew ?_) | (with_reducible refine Below.via (by assumption) ?_ ?_) | go_size)))
  clear x4 x5 x6 x7 x8 x9 l4 l5 l6 l7 l8 l9 y8 y9
  replace HB := Lib.hid (HB.out.below hb2)
  clear hb2
  cases hq : (overB m g && overB m h)
  · skip
    have Ho := Lib.hid (show liftR m p g h = ([], [], false) by rw [liftR, if_neg (by simp [liftOk, hv, hq])])
    have x4 := HB.out.c4
    have l4 := World.block_lt_of_cell? _ _ x4
    have x5 := HB.out.c5
    have l5 := World.block_lt_of_cell? _ _ x5
    have x6 := HB.out.c6
    have l6 := World.block_lt_of_cell? _ _ x6
    have x7 := HB.out.c7
    have l7 := World.block_lt_of_cell? _ _ x7
    have x8 := HB.out.c8
    have l8 := World.block_lt_of_cell? _ _ x8
    have x9 := HB.out.c9
    have l9 := World.block_lt_of_cell? _ _ x9
    simp only at l4 l5 l6 l7 l8 l9
    have y8 := HB.out.f8
    have y9 := HB.out.f9
    go_wp2_with fail
    (try simp only [Exit.inBlock, Exit.then]); refine bodyPost_ret (by simp [results, Try.results18, go_sem, *]; try rfl) rfl ?_
    rw [Ho.out]
    exact ⟨_, _, w.heap.size, rfl, Nat.le_refl _, by have h1 := HB.out.bel.size; (try simp only [World.size_setCell, World.size_alloc, World.size_drew]); omega, OwR.nil _ _ _, OwR.nil _ _ _, by have h1 := HB.out.bel; have h2 := h1.size; (repeat' (first | (with_reducible exact Below.refl _ _) | (with_reducible assumption) | (with_reducible refine Below.alloc ?_ ?_ _) | (with_reducible refine Below.setCell ?_ ?_ _) | (with_reducible refine Below.drew ?_) | (with_reducible refine Below.via (by assumption) ?_ ?_) | go_size))⟩
  obtain ⟨hg1, hh1⟩ := Bool.and_eq_true_iff.1 hq
  have Fg := Lib.hid (overB_ovr hg1)
  have Fh := Lib.hid (overB_ovr hh1)
  have hm := Lib.hid Fg.out.1
  have hm2 := primeB_bd hm.out
  have hgn := Lib.hid Fg.out.2.1.ne
  have hhn := Lib.hid Fh.out.2.1.ne
  clear hg1 hh1
  have x4 := HB.out.c4
  have l4 := World.block_lt_of_cell? _ _ x4
  have x5 := HB.out.c5
  have l5 := World.block_lt_of_cell? _ _ x5
  have x6 := HB.out.c6
  have l6 := World.block_lt_of_cell? _ _ x6
  have x7 := HB.out.c7
  have l7 := World.block_lt_of_cell? _ _ x7
  have x8 := HB.out.c8
  have l8 := World.block_lt_of_cell? _ _ x8
  have x9 := HB.out.c9
  have l9 := World.block_lt_of_cell? _ _ x9
  simp only at l4 l5 l6 l7 l8 l9
  have y8 := HB.out.f8
  have y9 := HB.out.f9
  go_wp2_with fail
  (go_at_call 79; ((with_reducible refine (degree_b _ _ _ _ hlp).mono ?_); rintro e wdd1 ⟨rfl, hbd1⟩))
  clear x4 x5 x6 x7 x8 x9 l4 l5 l6 l7 l8 l9 y8 y9
  replace HB := Lib.hid (HB.out.below hbd1)
  clear hbd1
  by_cases hd1 : (8 : Int) < (p.length : Int) - 1
  · skip
    have Ho := Lib.hid (show liftR m p g h = ([], [], false) by rw [liftR, if_neg (by simp [liftOk, hv, hq]; try omega)])
    have x4 := HB.out.c4
    have l4 := World.block_lt_of_cell? _ _ x4
    have x5 := HB.out.c5
    have l5 := World.block_lt_of_cell? _ _ x5
    have x6 := HB.out.c6
    have l6 := World.block_lt_of_cell? _ _ x6
    have x7 := HB.out.c7
    have l7 := World.block_lt_of_cell? _ _ x7
    have x8 := HB.out.c8
    have l8 := World.block_lt_of_cell? _ _ x8
    have x9 := HB.out.c9
    have l9 := World.block_lt_of_cell? _ _ x9
    simp only at l4 l5 l6 l7 l8 l9
    have y8 := HB.out.f8
    have y9 := HB.out.f9
    go_wp2_with fail
    (try simp only [Exit.inBlock, Exit.then]); refine bodyPost_ret (by simp [results, Try.results18, go_sem, *]; try rfl) rfl ?_
    rw [Ho.out]
    exact ⟨_, _, w.heap.size, rfl, Nat.le_refl _, by have h1 := HB.out.bel.size; (try simp only [World.size_setCell, World.size_alloc, World.size_drew]); omega, OwR.nil _ _ _, OwR.nil _ _ _, by have h1 := HB.out.bel; have h2 := h1.size; (repeat' (first | (with_reducible exact Below.refl _ _) | (with_reducible assumption) | (with_reducible refine Below.alloc ?_ ?_ _) | (with_reducible refine Below.setCell ?_ ?_ _) | (with_reducible refine Below.drew ?_) | (with_reducible refine Below.via (by assumption) ?_ ?_) | go_size))⟩
  have x4 := HB.out.c4
  have l4 := World.block_lt_of_cell? _ _ x4
  have x5 := HB.out.c5
  have l5 := World.block_lt_of_cell? _ _ x5
  have x6 := HB.out.c6
  have l6 := World.block_lt_of_cell? _ _ x6
  have x7 := HB.out.c7
  have l7 := World.block_lt_of_cell? _ _ x7
  have x8 := HB.out.c8
  have l8 := World.block_lt_of_cell? _ _ x8
  have x9 := HB.out.c9
  have l9 := World.block_lt_of_cell? _ _ x9
  simp only at l4 l5 l6 l7 l8 l9
  have y8 := HB.out.f8
  have y9 := HB.out.f9
  go_wp2_with fail
  (go_at_call 80; ((with_reducible refine (last_impl _ p _ (Hp.out.below HB.out.bel) hpn.out hlp).mono ?_); rintro e wlt1 ⟨rfl, hbt1⟩))
  clear x4 x5 x6 x7 x8 x9 l4 l5 l6 l7 l8 l9 y8 y9
  replace HB := Lib.hid (HB.out.below hbt1)
  clear hbt1
  by_cases ht1 : lastZ p = 1
  case neg =>
    have ht1b : (lastZ p != 1) = true := by simpa using ht1
    have Ho := Lib.hid (show liftR m p g h = ([], [], false) by rw [liftR, if_neg (by simp [liftOk, hv, hq, ht1]; try omega)])
    have x4 := HB.out.c4
    have l4 := World.block_lt_of_cell? _ _ x4
    have x5 := HB.out.c5
    have l5 := World.block_lt_of_cell? _ _ x5
    have x6 := HB.out.c6
    have l6 := World.block_lt_of_cell? _ _ x6
    have x7 := HB.out.c7
    have l7 := World.block_lt_of_cell? _ _ x7
    have x8 := HB.out.c8
    have l8 := World.block_lt_of_cell? _ _ x8
    have x9 := HB.out.c9
    have l9 := World.block_lt_of_cell? _ _ x9
    simp only at l4 l5 l6 l7 l8 l9
    have y8 := HB.out.f8
    have y9 := HB.out.f9
    go_wp2_with fail
    (try simp only [Exit.inBlock, Exit.then]); refine bodyPost_ret (by simp [results, Try.results18, go_sem, *]; try rfl) rfl ?_
    rw [Ho.out]
    exact ⟨_, _, w.heap.size, rfl, Nat.le_refl _, by have h1 := HB.out.bel.size; (try simp only [World.size_setCell, World.size_alloc, World.size_drew]); omega, OwR.nil _ _ _, OwR.nil _ _ _, by have h1 := HB.out.bel; have h2 := h1.size; (repeat' (first | (with_reducible exact Below.refl _ _) | (with_reducible assumption) | (with_reducible refine Below.alloc ?_ ?_ _) | (with_reducible refine Below.setCell ?_ ?_ _) | (with_reducible refine Below.drew ?_) | (with_reducible refine Below.via (by assumption) ?_ ?_) | go_size))⟩
  rw [ht1]
  have x4 := HB.out.c4
  have l4 := World.block_lt_of_cell? _ _ x4
  have x5 := HB.out.c5
  have l5 := World.block_lt_of_cell? _ _ x5
  have x6 := HB.out.c6
  have l6 := World.block_lt_of_cell? _ _ x6
  have x7 := HB.out.c7
  have l7 := World.block_lt_of_cell? _ _ x7
  have x8 := HB.out.c8
  have l8 := World.block_lt_of_cell? _ _ x8
  have x9 := HB.out.c9
  have l9 := World.block_lt_of_cell? _ _ x9
  simp only at l4 l5 l6 l7 l8 l9
  have y8 := HB.out.f8
  have y9 := HB.out.f9
  go_wp2_with fail
  (go_at_call 80; ((with_reducible refine (last_impl _ g _ (Hg.out.below HB.out.bel) hgn.out hlg).mono ?_); rintro e wlt2 ⟨rfl, hbt2⟩))
  clear x4 x5 x6 x7 x8 x9 l4 l5 l6 l7 l8 l9 y8 y9
  replace HB := Lib.hid (HB.out.below hbt2)
  clear hbt2
  by_cases ht2 : lastZ g = 1
  case neg =>
    have ht2b : (lastZ g != 1) = true := by simpa using ht2
    have Ho := Lib.hid (show liftR m p g h = ([], [], false) by rw [liftR, if_neg (by simp [liftOk, hv, hq, ht1, ht2]; try omega)])
    have x4 := HB.out.c4
    have l4 := World.block_lt_of_cell? _ _ x4
    have x5 := HB.out.c5
    have l5 := World.block_lt_of_cell? _ _ x5
    have x6 := HB.out.c6
    have l6 := World.block_lt_of_cell? _ _ x6
    have x7 := HB.out.c7
    have l7 := World.block_lt_of_cell? _ _ x7
    have x8 := HB.out.c8
    have l8 := World.block_lt_of_cell? _ _ x8
    have x9 := HB.out.c9
    have l9 := World.block_lt_of_cell? _ _ x9
    simp only at l4 l5 l6 l7 l8 l9
    have y8 := HB.out.f8
    have y9 := HB.out.f9
    go_wp2_with fail
    (try simp only [Exit.inBlock, Exit.then]); refine bodyPost_ret (by simp [results, Try.results18, go_sem, *]; try rfl) rfl ?_
    rw [Ho.out]
    exact ⟨_, _, w.heap.size, rfl, Nat.le_refl _, by have h1 := HB.out.bel.size; (try simp only [World.size_setCell, World.size_alloc, World.size_drew]); omega, OwR.nil _ _ _, OwR.nil _ _ _, by have h1 := HB.out.bel; have h2 := h1.size; (repeat' (first | (with_reducible exact Below.refl _ _) | (with_reducible assumption) | (with_reducible refine Below.alloc ?_ ?_ _) | (with_reducible refine Below.setCell ?_ ?_ _) | (with_reducible refine Below.drew ?_) | (with_reducible refine Below.via (by assumption) ?_ ?_) | go_size))⟩
  rw [ht2]
  have x4 := HB.out.c4
  have l4 := World.block_lt_of_cell? _ _ x4
  have x5 := HB.out.c5
  have l5 := World.block_lt_of_cell? _ _ x5
  have x6 := HB.out.c6
  have l6 := World.block_lt_of_cell? _ _ x6
  have x7 := HB.out.c7
  have l7 := World.block_lt_of_cell? _ _ x7
  have x8 := HB.out.c8
  have l8 := World.block_lt_of_cell? _ _ x8
  have x9 := HB.out.c9
  have l9 := World.block_lt_of_cell? _ _ x9
  simp only at l4 l5 l6 l7 l8 l9
  have y8 := HB.out.f8
  have y9 := HB.out.f9
  go_wp2_with fail
  (go_at_call 80; ((with_reducible refine (last_impl _ h _ (Hh.out.below HB.out.bel) hhn.out hlh).mono ?_); rintro e wlt3 ⟨rfl, hbt3⟩))
  clear x4 x5 x6 x7 x8 x9 l4 l5 l6 l7 l8 l9 y8 y9
  replace HB := Lib.hid (HB.out.below hbt3)
  clear hbt3
  by_cases ht3 : lastZ h = 1
  case neg =>
    have ht3b : (lastZ h != 1) = true := by simpa using ht3
    have Ho := Lib.hid (show liftR m p g h = ([], [], false) by rw [liftR, if_neg (by simp [liftOk, hv, hq, ht1, ht2, ht3]; try omega)])
    have x4 := HB.out.c4
    have l4 := World.block_lt_of_cell? _ _ x4
    have x5 := HB.out.c5
    have l5 := World.block_lt_of_cell? _ _ x5
    have x6 := HB.out.c6
    have l6 := World.block_lt_of_cell? _ _ x6
    have x7 := HB.out.c7
    have l7 := World.block_lt_of_cell? _ _ x7
    have x8 := HB.out.c8
    have l8 := World.block_lt_of_cell? _ _ x8
    have x9 := HB.out.c9
    have l9 := World.block_lt_of_cell? _ _ x9
    simp only at l4 l5 l6 l7 l8 l9
    have y8 := HB.out.f8
    have y9 := HB.out.f9
    go_wp2_with fail
    (try simp only [Exit.inBlock, Exit.then]); refine bodyPost_ret (by simp [results, Try.results18, go_sem, *]; try rfl) rfl ?_
    rw [Ho.out]
    exact ⟨_, _, w.heap.size, rfl, Nat.le_refl _, by have h1 := HB.out.bel.size; (try simp only [World.size_setCell, World.size_alloc, World.size_drew]); omega, OwR.nil _ _ _, OwR.nil _ _ _, by have h1 := HB.out.bel; have h2 := h1.size; (repeat' (first | (with_reducible exact Below.refl _ _) | (with_reducible assumption) | (with_reducible refine Below.alloc ?_ ?_ _) | (with_reducible refine Below.setCell ?_ ?_ _) | (with_reducible refine Below.drew ?_) | (with_reducible refine Below.via (by assumption) ?_ ?_) | go_size))⟩
  rw [ht3]
  have x4 := HB.out.c4
  have l4 := World.block_lt_of_cell? _ _ x4
  have x5 := HB.out.c5
  have l5 := World.block_lt_of_cell? _ _ x5
  have x6 := HB.out.c6
  have l6 := World.block_lt_of_cell? _ _ x6
  have x7 := HB.out.c7
  have l7 := World.block_lt_of_cell? _ _ x7
  have x8 := HB.out.c8
  have l8 := World.block_lt_of_cell? _ _ x8
  have x9 := HB.out.c9
  have l9 := World.block_lt_of_cell? _ _ x9
  simp only at l4 l5 l6 l7 l8 l9
  have y8 := HB.out.f8
  have y9 := HB.out.f9
  go_wp2_with fail
  (go_at_call 79; ((with_reducible refine (degree_b _ _ _ _ hlg).mono ?_); rintro e wdd2 ⟨rfl, hbd2⟩))
  clear x4 x5 x6 x7 x8 x9 l4 l5 l6 l7 l8 l9 y8 y9
  replace HB := Lib.hid (HB.out.below hbd2)
  clear hbd2
  by_cases hd2 : (g.length : Int) - 1 < 1
  · skip
    have Ho := Lib.hid (show liftR m p g h = ([], [], false) by rw [liftR, if_neg (by simp [liftOk, hv, hq, ht1, ht2, ht3]; try omega)])
    have x4 := HB.out.c4
    have l4 := World.block_lt_of_cell? _ _ x4
    have x5 := HB.out.c5
    have l5 := World.block_lt_of_cell? _ _ x5
    have x6 := HB.out.c6
    have l6 := World.block_lt_of_cell? _ _ x6
    have x7 := HB.out.c7
    have l7 := World.block_lt_of_cell? _ _ x7
    have x8 := HB.out.c8
    have l8 := World.block_lt_of_cell? _ _ x8
    have x9 := HB.out.c9
    have l9 := World.block_lt_of_cell? _ _ x9
    simp only at l4 l5 l6 l7 l8 l9
    have y8 := HB.out.f8
    have y9 := HB.out.f9
    go_wp2_with fail
    (try simp only [Exit.inBlock, Exit.then]); refine bodyPost_ret (by simp [results, Try.results18, go_sem, *]; try rfl) rfl ?_
    rw [Ho.out]
    exact ⟨_, _, w.heap.size, rfl, Nat.le_refl _, by have h1 := HB.out.bel.size; (try simp only [World.size_setCell, World.size_alloc, World.size_drew]); omega, OwR.nil _ _ _, OwR.nil _ _ _, by have h1 := HB.out.bel; have h2 := h1.size; (repeat' (first | (with_reducible exact Below.refl _ _) | (with_reducible assumption) | (with_reducible refine Below.alloc ?_ ?_ _) | (with_reducible refine Below.setCell ?_ ?_ _) | (with_reducible refine Below.drew ?_) | (with_reducible refine Below.via (by assumption) ?_ ?_) | go_size))⟩
  have x4 := HB.out.c4
  have l4 := World.block_lt_of_cell? _ _ x4
  have x5 := HB.out.c5
  have l5 := World.block_lt_of_cell? _ _ x5
  have x6 := HB.out.c6
  have l6 := World.block_lt_of_cell? _ _ x6
  have x7 := HB.out.c7
  have l7 := World.block_lt_of_cell? _ _ x7
  have x8 := HB.out.c8
  have l8 := World.block_lt_of_cell? _ _ x8
  have x9 := HB.out.c9
  have l9 := World.block_lt_of_cell? _ _ x9
  simp only at l4 l5 l6 l7 l8 l9
  have y8 := HB.out.f8
  have y9 := HB.out.f9
  go_wp2_with fail
  (go_at_call 79; ((with_reducible refine (degree_b _ _ _ _ hlh).mono ?_); rintro e wdd3 ⟨rfl, hbd3⟩))
  clear x4 x5 x6 x7 x8 x9 l4 l5 l6 l7 l8 l9 y8 y9
  replace HB := Lib.hid (HB.out.below hbd3)
  clear hbd3
  by_cases hd3 : (h.length : Int) - 1 < 1
  · skip
    have Ho := Lib.hid (show liftR m p g h = ([], [], false) by rw [liftR, if_neg (by simp [liftOk, hv, hq, ht1, ht2, ht3]; try omega)])
    have x4 := HB.out.c4
    have l4 := World.block_lt_of_cell? _ _ x4
    have x5 := HB.out.c5
    have l5 := World.block_lt_of_cell? _ _ x5
    have x6 := HB.out.c6
    have l6 := World.block_lt_of_cell? _ _ x6
    have x7 := HB.out.c7
    have l7 := World.block_lt_of_cell? _ _ x7
    have x8 := HB.out.c8
    have l8 := World.block_lt_of_cell? _ _ x8
    have x9 := HB.out.c9
    have l9 := World.block_lt_of_cell? _ _ x9
    simp only at l4 l5 l6 l7 l8 l9
    have y8 := HB.out.f8
    have y9 := HB.out.f9
    go_wp2_with fail
    (try simp only [Exit.inBlock, Exit.then]); refine bodyPost_ret (by simp [results, Try.results18, go_sem, *]; try rfl) rfl ?_
    rw [Ho.out]
    exact ⟨_, _, w.heap.size, rfl, Nat.le_refl _, by have h1 := HB.out.bel.size; (try simp only [World.size_setCell, World.size_alloc, World.size_drew]); omega, OwR.nil _ _ _, OwR.nil _ _ _, by have h1 := HB.out.bel; have h2 := h1.size; (repeat' (first | (with_reducible exact Below.refl _ _) | (with_reducible assumption) | (with_reducible refine Below.alloc ?_ ?_ _) | (with_reducible refine Below.setCell ?_ ?_ _) | (with_reducible refine Below.drew ?_) | (with_reducible refine Below.via (by assumption) ?_ ?_) | go_size))⟩
  have hzg : zeroB g = false := long_zero (by omega)
  have HGC := Lib.hid (gcd_single hm.out Fg.out.2.1 Fh.out.2.1 hzg)
  have Og := Lib.hid Fg.out.2.1
  have Oh := Lib.hid Fh.out.2.1
  have Fl : g.length ≤ 17 ∧ h.length ≤ 17 := ⟨Fg.out.2.2, Fh.out.2.2⟩
  have HCn := Lib.hid (show monicF m (gcdZ m g h) ≠ [] ∧ (monicF m (gcdZ m g h)).length ≤ 1000 by
    have o := gcdZ_ovr hm.out (Nat.lt_succ_self _) Og.out Oh.out
    rw [monic_eq hm.out o.ov o.trd]
    have h1 := monicS_length m (gcdZ m g h)
    have h2 := o.trd.1
    have h3 := o.len
    exact ⟨List.ne_nil_of_length_pos (by omega), by omega⟩)
  have Hmul := Lib.hid (mulF_ovr (m := m) (by omega) Og.out Oh.out (by omega))
  have Hvp := Lib.hid (validB_iff.1 hv)
  have HW := Lib.hid (Below.refl 0 wdd3)
  by_cases hgc : (gcdZ m g h).length = 1
  case neg =>
    have HG := Lib.hid (show (monicF m (gcdZ m g h) == [1]) = false by rw [HGC.out]; simp [hgc])
    have BBW := Lib.hid HB.out.bel
    have x4 := HB.out.c4
    have l4 := World.block_lt_of_cell? _ _ x4
    have x5 := HB.out.c5
    have l5 := World.block_lt_of_cell? _ _ x5
    have x6 := HB.out.c6
    have l6 := World.block_lt_of_cell? _ _ x6
    have x7 := HB.out.c7
    have l7 := World.block_lt_of_cell? _ _ x7
    have x8 := HB.out.c8
    have l8 := World.block_lt_of_cell? _ _ x8
    have x9 := HB.out.c9
    have l9 := World.block_lt_of_cell? _ _ x9
    simp only at l4 l5 l6 l7 l8 l9
    have y8 := HB.out.f8
    have y9 := HB.out.f9
    go_upto_region 3 with fail
    go_cut [88] (fun v wx => v = .bool true ∧ Below wdd3.heap.size wdd3 wx)
    case first =>
      as_aux_lemma =>
      refine wp_region_held_drew (S := fun w' => w'.cell? ⟨w.heap.size, 0, none⟩ = some (.slice pp p.length qp) ∧ w'.cell? ⟨w.heap.size + 1, 0, none⟩ = some (.slice pg g.length qg) ∧ w'.cell? ⟨w.heap.size + 1 + 1, 0, none⟩ = some (.slice ph h.length qh) ∧ w'.cell? ⟨w.heap.size + 1 + 1 + 1, 0, none⟩ = some (.int .i64 m)) (by kernel_rfl) (by (((try dsimp only); (repeat' (refine And.intro ?_ ?_)); all_goals (first | assumption | (refine (Below.cell (B := wdd3.heap.size) (w := wdd3) ?_ ?_).trans ?_ <;> (first | assumption | omega | (simp only; omega) | (skip; (repeat' (first | (with_reducible exact Below.refl _ _) | (with_reducible assumption) | (with_reducible refine Below.alloc ?_ ?_ _) | (with_reducible refine Below.setCell ?_ ?_ _) | (with_reducible refine Below.drew ?_) | (with_reducible refine Below.via (by assumption) ?_ ?_) | go_size)); done))) | (go_keep; done))))) (fun hHeld => ?_)
      refine wpAnyH_take (i := 0) (v := ?_) rfl (by kernel_rfl) (by kernel_rfl) (by kernel_rfl) (fun _ _ _ h => h) (Or.inl ⟨by rfl, ?_⟩) (by assumption) ?_
      rotate_left 1
      (intro w hSw; (try dsimp only at hSw); go_simp; (try with_reducible rfl))
      (try simp only [List.getElem_toArray, List.getElem_cons_succ, List.getElem_cons_zero, Act.put, List.setIfInBounds_toArray, List.set_cons_zero, List.set_cons_succ])
      refine wpAnyH_take (i := 1) (v := ?_) rfl (by kernel_rfl) (by kernel_rfl) (by kernel_rfl) (fun _ _ _ h => h) (Or.inl ⟨by rfl, ?_⟩) (by assumption) ?_
      rotate_left 1
      (intro w hSw; (try dsimp only at hSw); go_simp; (try with_reducible rfl))
      (try simp only [List.getElem_toArray, List.getElem_cons_succ, List.getElem_cons_zero, Act.put, List.setIfInBounds_toArray, List.set_cons_zero, List.set_cons_succ])
      refine wpAnyH_take (i := 2) (v := ?_) rfl (by kernel_rfl) (by kernel_rfl) (by kernel_rfl) (fun _ _ _ h => h) (Or.inl ⟨by rfl, ?_⟩) (by assumption) ?_
      rotate_left 1
      (intro w hSw; (try dsimp only at hSw); go_simp; (try with_reducible rfl))
      (try simp only [List.getElem_toArray, List.getElem_cons_succ, List.getElem_cons_zero, Act.put, List.setIfInBounds_toArray, List.set_cons_zero, List.set_cons_succ])
      refine wpAnyH_ready (rs := [3, 4]) (by kernel_rfl) (by simp) ?_
      refine AllReadyH.cons rfl (fun K3 hK3 => ?_) ?_
      · go_simp
        (go_at_call 81; ((with_reducible refine (common_impl _ _ g h m _ (Hg.out.below (BBW.out.trans (Below.mono (show Below wdd3.heap.size wdd3 _ by (repeat' (first | (with_reducible exact Below.refl _ _) | (with_reducible assumption) | (with_reducible refine Below.alloc ?_ ?_ _) | (with_reducible refine Below.setCell ?_ ?_ _) | (with_reducible refine Below.drew ?_) | (with_reducible refine Below.via (by assumption) ?_ ?_) | go_size))) BBW.out.size))) (Hh.out.below (BBW.out.trans (Below.mono (show Below wdd3.heap.size wdd3 _ by (repeat' (first | (with_reducible exact Below.refl _ _) | (with_reducible assumption) | (with_reducible refine Below.alloc ?_ ?_ _) | (with_reducible refine Below.setCell ?_ ?_ _) | (with_reducible refine Below.drew ?_) | (with_reducible refine Below.via (by assumption) ?_ ?_) | go_size))) BBW.out.size))) hm.out Og.out Oh.out).mono ?_); rintro e wc ⟨vc, rfl, oc, dc⟩; obtain ⟨pc, qc, rfl⟩ := oc.rd.shape; have Bc := (show Below wdd3.heap.size wdd3 wc by (repeat' (first | (with_reducible exact Below.refl _ _) | (with_reducible assumption) | (with_reducible refine Below.alloc ?_ ?_ _) | (with_reducible refine Below.setCell ?_ ?_ _) | (with_reducible refine Below.drew ?_) | (with_reducible refine Below.via (by assumption) ?_ ?_) | go_size))); have zc := Bc.size; have zc2 := dc.size; (try simp only [World.size_drew, World.size_alloc] at zc2); obtain ⟨cc, fc⟩ := bcell dc; (try have lc1 : wdd3.heap.size < wc.heap.size := by omega)))
        (try go_wp2_with fail)
        refine hK3.out _ _ ?_ (fun hHeld3 => ?_)
        · (((try dsimp only); (repeat' (refine And.intro ?_ ?_)); all_goals (first | assumption | (refine (Below.cell (B := wdd3.heap.size) (w := wdd3) ?_ ?_).trans ?_ <;> (first | assumption | omega | (simp only; omega) | (skip; (repeat' (first | (with_reducible exact Below.refl _ _) | (with_reducible assumption) | (with_reducible refine Below.alloc ?_ ?_ _) | (with_reducible refine Below.setCell ?_ ?_ _) | (with_reducible refine Below.drew ?_) | (with_reducible refine Below.via (by assumption) ?_ ?_) | go_size)); done))) | (go_keep; done))))
        clear hK3 K3
        (try simp only [List.getElem_toArray, List.getElem_cons_succ, List.getElem_cons_zero, Act.put, List.setIfInBounds_toArray, List.set_cons_zero, List.set_cons_succ])
        refine wpAnyH_ready (rs := [4]) (by kernel_rfl) (by simp) ?_
        refine AllReadyH.cons rfl (fun K4 hK4 => ?_) ?_
        · go_simp
          (try go_wp2_with fail)
          refine hK4.out _ _ ?_ (fun hHeld4 => ?_)
          · (((try dsimp only); (repeat' (refine And.intro ?_ ?_)); all_goals (first | assumption | (refine (Below.cell (B := wdd3.heap.size) (w := wdd3) ?_ ?_).trans ?_ <;> (first | assumption | omega | (simp only; omega) | (skip; (repeat' (first | (with_reducible exact Below.refl _ _) | (with_reducible assumption) | (with_reducible refine Below.alloc ?_ ?_ _) | (with_reducible refine Below.setCell ?_ ?_ _) | (with_reducible refine Below.drew ?_) | (with_reducible refine Below.via (by assumption) ?_ ?_) | go_size)); done))) | (go_keep; done))))
          clear hK4 K4
          (try simp only [List.getElem_toArray, List.getElem_cons_succ, List.getElem_cons_zero, Act.put, List.setIfInBounds_toArray, List.set_cons_zero, List.set_cons_succ])
          refine wpAnyH_take (i := 5) (v := ?_) rfl (by kernel_rfl) (by kernel_rfl) (by kernel_rfl) (fun _ _ _ h => h) (Or.inl ⟨by rfl, ?_⟩) (by assumption) ?_
          rotate_left 1
          (intro w hSw; (try dsimp only at hSw); go_simp; (try with_reducible rfl))
          (try simp only [List.getElem_toArray, List.getElem_cons_succ, List.getElem_cons_zero, Act.put, List.setIfInBounds_toArray, List.set_cons_zero, List.set_cons_succ])
          refine wpAnyH_ready (rs := [6]) (by kernel_rfl) (by simp) ?_
          refine AllReadyH.cons rfl (fun K6 hK6 => ?_) ?_
          · go_simp
            (go_at_call 26; ((with_reducible refine (same_any _ _ (monicF m (gcdZ m g h)) [1] _ (oc.rd.below (by (repeat' (first | (with_reducible exact Below.refl _ _) | (with_reducible assumption) | (with_reducible refine Below.alloc ?_ ?_ _) | (with_reducible refine Below.setCell ?_ ?_ _) | (with_reducible refine Below.drew ?_) | (with_reducible refine Below.via (by assumption) ?_ ?_) | go_size)))) (RdI.one (by go_simp)) HCn.out.1 (by simp) (by have := HCn.out.2; omega) (by simp)).mono ?_); rintro e ws ⟨rfl, ds⟩; rw [HG.out]; have Bs := (show Below wdd3.heap.size wdd3 ws by (repeat' (first | (with_reducible exact Below.refl _ _) | (with_reducible assumption) | (with_reducible refine Below.alloc ?_ ?_ _) | (with_reducible refine Below.setCell ?_ ?_ _) | (with_reducible refine Below.drew ?_) | (with_reducible refine Below.via (by assumption) ?_ ?_) | go_size))); have zs := Bs.size))
            (try go_wp2_with fail)
            refine hK6.out _ _ ?_ (fun hHeld6 => ?_)
            · (((try dsimp only); (repeat' (refine And.intro ?_ ?_)); all_goals (first | assumption | (refine (Below.cell (B := wdd3.heap.size) (w := wdd3) ?_ ?_).trans ?_ <;> (first | assumption | omega | (simp only; omega) | (skip; (repeat' (first | (with_reducible exact Below.refl _ _) | (with_reducible assumption) | (with_reducible refine Below.alloc ?_ ?_ _) | (with_reducible refine Below.setCell ?_ ?_ _) | (with_reducible refine Below.drew ?_) | (with_reducible refine Below.via (by assumption) ?_ ?_) | go_size)); done))) | (go_keep; done))))
            clear hK6 K6
            (try simp only [List.getElem_toArray, List.getElem_cons_succ, List.getElem_cons_zero, Act.put, List.setIfInBounds_toArray, List.set_cons_zero, List.set_cons_succ])
            refine wpAnyH_take (i := 7) (v := ?_) rfl (by kernel_rfl) (by kernel_rfl) (by kernel_rfl) (fun _ _ _ h => h) (Or.inl ⟨by rfl, ?_⟩) (by assumption) ?_
            rotate_left 1
            (intro w hSw; (try dsimp only at hSw); go_simp; (try with_reducible rfl))
            (try simp only [List.getElem_toArray, List.getElem_cons_succ, List.getElem_cons_zero, Act.put, List.setIfInBounds_toArray, List.set_cons_zero, List.set_cons_succ])
            refine wpAnyH_take (i := 8) (v := ?_) rfl (by kernel_rfl) (by kernel_rfl) (by kernel_rfl) (fun _ _ _ h => h) (Or.inl ⟨by rfl, ?_⟩) (by assumption) ?_
            rotate_left 1
            (intro w hSw; (try dsimp only at hSw); go_simp; (try with_reducible rfl))
            (try simp only [List.getElem_toArray, List.getElem_cons_succ, List.getElem_cons_zero, Act.put, List.setIfInBounds_toArray, List.set_cons_zero, List.set_cons_succ])
            refine wpAnyH_take (i := 9) rfl (by kernel_rfl) (by kernel_rfl) (by kernel_rfl) (fun _ _ _ h => h) (Or.inr ⟨by rfl, rfl⟩) (by assumption) ?_
            (try simp only [List.getElem_toArray, List.getElem_cons_succ, List.getElem_cons_zero, Act.put, List.setIfInBounds_toArray, List.set_cons_zero, List.set_cons_succ])
            refine wpAnyH_take (i := 10) rfl (by kernel_rfl) (by kernel_rfl) (by kernel_rfl) (fun _ _ _ h => h) (Or.inr ⟨by rfl, rfl⟩) (by assumption) ?_
            (try simp only [List.getElem_toArray, List.getElem_cons_succ, List.getElem_cons_zero, Act.put, List.setIfInBounds_toArray, List.set_cons_zero, List.set_cons_succ])
            refine wpAnyH_take (i := 11) rfl (by kernel_rfl) (by kernel_rfl) (by kernel_rfl) (fun _ _ _ h => h) (Or.inr ⟨by rfl, rfl⟩) (by assumption) ?_
            (try simp only [List.getElem_toArray, List.getElem_cons_succ, List.getElem_cons_zero, Act.put, List.setIfInBounds_toArray, List.set_cons_zero, List.set_cons_succ])
            refine wpAnyH_take (i := 12) rfl (by kernel_rfl) (by kernel_rfl) (by kernel_rfl) (fun _ _ _ h => h) (Or.inr ⟨by rfl, rfl⟩) (by assumption) ?_
            (try simp only [List.getElem_toArray, List.getElem_cons_succ, List.getElem_cons_zero, Act.put, List.setIfInBounds_toArray, List.set_cons_zero, List.set_cons_succ])
            refine wpAnyH_take (i := 13) rfl (by kernel_rfl) (by kernel_rfl) (by kernel_rfl) (fun _ _ _ h => h) (Or.inr ⟨by rfl, rfl⟩) (by assumption) ?_
            (try simp only [List.getElem_toArray, List.getElem_cons_succ, List.getElem_cons_zero, Act.put, List.setIfInBounds_toArray, List.set_cons_zero, List.set_cons_succ])
            refine wpAnyH_take (i := 14) rfl (by kernel_rfl) (by kernel_rfl) (by kernel_rfl) (fun _ _ _ h => h) (Or.inr ⟨by rfl, rfl⟩) (by assumption) ?_
            (try simp only [List.getElem_toArray, List.getElem_cons_succ, List.getElem_cons_zero, Act.put, List.setIfInBounds_toArray, List.set_cons_zero, List.set_cons_succ])
            refine wpAnyH_take (i := 15) rfl (by kernel_rfl) (by kernel_rfl) (by kernel_rfl) (fun _ _ _ h => h) (Or.inr ⟨by rfl, rfl⟩) (by assumption) ?_
            (try simp only [List.getElem_toArray, List.getElem_cons_succ, List.getElem_cons_zero, Act.put, List.setIfInBounds_toArray, List.set_cons_zero, List.set_cons_succ])
            refine wpAnyH_take (i := 16) rfl (by kernel_rfl) (by kernel_rfl) (by kernel_rfl) (fun _ _ _ h => h) (Or.inr ⟨by rfl, rfl⟩) (by assumption) ?_
            (try simp only [List.getElem_toArray, List.getElem_cons_succ, List.getElem_cons_zero, Act.put, List.setIfInBounds_toArray, List.set_cons_zero, List.set_cons_succ])
            refine wpAnyH_take (i := 17) rfl (by kernel_rfl) (by kernel_rfl) (by kernel_rfl) (fun _ _ _ h => h) (Or.inr ⟨by rfl, rfl⟩) (by assumption) ?_
            (try simp only [List.getElem_toArray, List.getElem_cons_succ, List.getElem_cons_zero, Act.put, List.setIfInBounds_toArray, List.set_cons_zero, List.set_cons_succ])
            refine wpAnyH_take (i := 18) rfl (by kernel_rfl) (by kernel_rfl) (by kernel_rfl) (fun _ _ _ h => h) (Or.inr ⟨by rfl, rfl⟩) (by assumption) ?_
            (try simp only [List.getElem_toArray, List.getElem_cons_succ, List.getElem_cons_zero, Act.put, List.setIfInBounds_toArray, List.set_cons_zero, List.set_cons_succ])
            refine wpAnyH_take (i := 19) (v := ?_) rfl (by kernel_rfl) (by kernel_rfl) (by kernel_rfl) (fun _ _ _ h => h) (Or.inl ⟨by rfl, ?_⟩) (by assumption) ?_
            rotate_left 1
            (intro w hSw; (try dsimp only at hSw); go_simp; (try with_reducible rfl))
            (try simp only [List.getElem_toArray, List.getElem_cons_succ, List.getElem_cons_zero, Act.put, List.setIfInBounds_toArray, List.set_cons_zero, List.set_cons_succ])
            refine wpAnyH_done (by kernel_rfl) ?_ _
            go_wp2_with fail
            go_meet
            exact ⟨rfl, by (repeat' (first | (with_reducible exact Below.refl _ _) | (with_reducible assumption) | (with_reducible refine Below.alloc ?_ ?_ _) | (with_reducible refine Below.setCell ?_ ?_ _) | (with_reducible refine Below.drew ?_) | (with_reducible refine Below.via (by assumption) ?_ ?_) | go_size))⟩
          exact AllReadyH.nil
        exact AllReadyH.nil
      refine AllReadyH.cons rfl (fun K4 hK4 => ?_) ?_
      · go_simp
        (try go_wp2_with fail)
        refine hK4.out _ _ ?_ (fun hHeld4 => ?_)
        · (((try dsimp only); (repeat' (refine And.intro ?_ ?_)); all_goals (first | assumption | (refine (Below.cell (B := wdd3.heap.size) (w := wdd3) ?_ ?_).trans ?_ <;> (first | assumption | omega | (simp only; omega) | (skip; (repeat' (first | (with_reducible exact Below.refl _ _) | (with_reducible assumption) | (with_reducible refine Below.alloc ?_ ?_ _) | (with_reducible refine Below.setCell ?_ ?_ _) | (with_reducible refine Below.drew ?_) | (with_reducible refine Below.via (by assumption) ?_ ?_) | go_size)); done))) | (go_keep; done))))
        clear hK4 K4
        (try simp only [List.getElem_toArray, List.getElem_cons_succ, List.getElem_cons_zero, Act.put, List.setIfInBounds_toArray, List.set_cons_zero, List.set_cons_succ])
        refine wpAnyH_take (i := 5) (v := ?_) rfl (by kernel_rfl) (by kernel_rfl) (by kernel_rfl) (fun _ _ _ h => h) (Or.inl ⟨by rfl, ?_⟩) (by assumption) ?_
        rotate_left 1
        (intro w hSw; (try dsimp only at hSw); go_simp; (try with_reducible rfl))
        (try simp only [List.getElem_toArray, List.getElem_cons_succ, List.getElem_cons_zero, Act.put, List.setIfInBounds_toArray, List.set_cons_zero, List.set_cons_succ])
        refine wpAnyH_ready (rs := [3]) (by kernel_rfl) (by simp) ?_
        refine AllReadyH.cons rfl (fun K3 hK3 => ?_) ?_
        · go_simp
          (go_at_call 81; ((with_reducible refine (common_impl _ _ g h m _ (Hg.out.below (BBW.out.trans (Below.mono (show Below wdd3.heap.size wdd3 _ by (repeat' (first | (with_reducible exact Below.refl _ _) | (with_reducible assumption) | (with_reducible refine Below.alloc ?_ ?_ _) | (with_reducible refine Below.setCell ?_ ?_ _) | (with_reducible refine Below.drew ?_) | (with_reducible refine Below.via (by assumption) ?_ ?_) | go_size))) BBW.out.size))) (Hh.out.below (BBW.out.trans (Below.mono (show Below wdd3.heap.size wdd3 _ by (repeat' (first | (with_reducible exact Below.refl _ _) | (with_reducible assumption) | (with_reducible refine Below.alloc ?_ ?_ _) | (with_reducible refine Below.setCell ?_ ?_ _) | (with_reducible refine Below.drew ?_) | (with_reducible refine Below.via (by assumption) ?_ ?_) | go_size))) BBW.out.size))) hm.out Og.out Oh.out).mono ?_); rintro e wc ⟨vc, rfl, oc, dc⟩; obtain ⟨pc, qc, rfl⟩ := oc.rd.shape; have Bc := (show Below wdd3.heap.size wdd3 wc by (repeat' (first | (with_reducible exact Below.refl _ _) | (with_reducible assumption) | (with_reducible refine Below.alloc ?_ ?_ _) | (with_reducible refine Below.setCell ?_ ?_ _) | (with_reducible refine Below.drew ?_) | (with_reducible refine Below.via (by assumption) ?_ ?_) | go_size))); have zc := Bc.size; have zc2 := dc.size; (try simp only [World.size_drew, World.size_alloc] at zc2); obtain ⟨cc, fc⟩ := bcell dc; (try have lc1 : wdd3.heap.size < wc.heap.size := by omega)))
          (try go_wp2_with fail)
          refine hK3.out _ _ ?_ (fun hHeld3 => ?_)
          · (((try dsimp only); (repeat' (refine And.intro ?_ ?_)); all_goals (first | assumption | (refine (Below.cell (B := wdd3.heap.size) (w := wdd3) ?_ ?_).trans ?_ <;> (first | assumption | omega | (simp only; omega) | (skip; (repeat' (first | (with_reducible exact Below.refl _ _) | (with_reducible assumption) | (with_reducible refine Below.alloc ?_ ?_ _) | (with_reducible refine Below.setCell ?_ ?_ _) | (with_reducible refine Below.drew ?_) | (with_reducible refine Below.via (by assumption) ?_ ?_) | go_size)); done))) | (go_keep; done))))
          clear hK3 K3
          (try simp only [List.getElem_toArray, List.getElem_cons_succ, List.getElem_cons_zero, Act.put, List.setIfInBounds_toArray, List.set_cons_zero, List.set_cons_succ])
          refine wpAnyH_ready (rs := [6]) (by kernel_rfl) (by simp) ?_
          refine AllReadyH.cons rfl (fun K6 hK6 => ?_) ?_
          · go_simp
            (go_at_call 26; ((with_reducible refine (same_any _ _ (monicF m (gcdZ m g h)) [1] _ (oc.rd.below (by (repeat' (first | (with_reducible exact Below.refl _ _) | (with_reducible assumption) | (with_reducible refine Below.alloc ?_ ?_ _) | (with_reducible refine Below.setCell ?_ ?_ _) | (with_reducible refine Below.drew ?_) | (with_reducible refine Below.via (by assumption) ?_ ?_) | go_size)))) (RdI.one (by go_simp)) HCn.out.1 (by simp) (by have := HCn.out.2; omega) (by simp)).mono ?_); rintro e ws ⟨rfl, ds⟩; rw [HG.out]; have Bs := (show Below wdd3.heap.size wdd3 ws by (repeat' (first | (with_reducible exact Below.refl _ _) | (with_reducible assumption) | (with_reducible refine Below.alloc ?_ ?_ _) | (with_reducible refine Below.setCell ?_ ?_ _) | (with_reducible refine Below.drew ?_) | (with_reducible refine Below.via (by assumption) ?_ ?_) | go_size))); have zs := Bs.size))
            (try go_wp2_with fail)
            refine hK6.out _ _ ?_ (fun hHeld6 => ?_)
            · (((try dsimp only); (repeat' (refine And.intro ?_ ?_)); all_goals (first | assumption | (refine (Below.cell (B := wdd3.heap.size) (w := wdd3) ?_ ?_).trans ?_ <;> (first | assumption | omega | (simp only; omega) | (skip; (repeat' (first | (with_reducible exact Below.refl _ _) | (with_reducible assumption) | (with_reducible refine Below.alloc ?_ ?_ _) | (with_reducible refine Below.setCell ?_ ?_ _) | (with_reducible refine Below.drew ?_) | (with_reducible refine Below.via (by assumption) ?_ ?_) | go_size)); done))) | (go_keep; done))))
            clear hK6 K6
            (try simp only [List.getElem_toArray, List.getElem_cons_succ, List.getElem_cons_zero, Act.put, List.setIfInBounds_toArray, List.set_cons_zero, List.set_cons_succ])
            refine wpAnyH_take (i := 7) (v := ?_) rfl (by kernel_rfl) (by kernel_rfl) (by kernel_rfl) (fun _ _ _ h => h) (Or.inl ⟨by rfl, ?_⟩) (by assumption) ?_
            rotate_left 1
            (intro w hSw; (try dsimp only at hSw); go_simp; (try with_reducible rfl))
            (try simp only [List.getElem_toArray, List.getElem_cons_succ, List.getElem_cons_zero, Act.put, List.setIfInBounds_toArray, List.set_cons_zero, List.set_cons_succ])
            refine wpAnyH_take (i := 8) (v := ?_) rfl (by kernel_rfl) (by kernel_rfl) (by kernel_rfl) (fun _ _ _ h => h) (Or.inl ⟨by rfl, ?_⟩) (by assumption) ?_
            rotate_left 1
            (intro w hSw; (try dsimp only at hSw); go_simp; (try with_reducible rfl))
            (try simp only [List.getElem_toArray, List.getElem_cons_succ, List.getElem_cons_zero, Act.put, List.setIfInBounds_toArray, List.set_cons_zero, List.set_cons_succ])
            refine wpAnyH_take (i := 9) rfl (by kernel_rfl) (by kernel_rfl) (by kernel_rfl) (fun _ _ _ h => h) (Or.inr ⟨by rfl, rfl⟩) (by assumption) ?_
            (try simp only [List.getElem_toArray, List.getElem_cons_succ, List.getElem_cons_zero, Act.put, List.setIfInBounds_toArray, List.set_cons_zero, List.set_cons_succ])
            refine wpAnyH_take (i := 10) rfl (by kernel_rfl) (by kernel_rfl) (by kernel_rfl) (fun _ _ _ h => h) (Or.inr ⟨by rfl, rfl⟩) (by assumption) ?_
            (try simp only [List.getElem_toArray, List.getElem_cons_succ, List.getElem_cons_zero, Act.put, List.setIfInBounds_toArray, List.set_cons_zero, List.set_cons_succ])
            refine wpAnyH_take (i := 11) rfl (by kernel_rfl) (by kernel_rfl) (by kernel_rfl) (fun _ _ _ h => h) (Or.inr ⟨by rfl, rfl⟩) (by assumption) ?_
            (try simp only [List.getElem_toArray, List.getElem_cons_succ, List.getElem_cons_zero, Act.put, List.setIfInBounds_toArray, List.set_cons_zero, List.set_cons_succ])
            refine wpAnyH_take (i := 12) rfl (by kernel_rfl) (by kernel_rfl) (by kernel_rfl) (fun _ _ _ h => h) (Or.inr ⟨by rfl, rfl⟩) (by assumption) ?_
            (try simp only [List.getElem_toArray, List.getElem_cons_succ, List.getElem_cons_zero, Act.put, List.setIfInBounds_toArray, List.set_cons_zero, List.set_cons_succ])
            refine wpAnyH_take (i := 13) rfl (by kernel_rfl) (by kernel_rfl) (by kernel_rfl) (fun _ _ _ h => h) (Or.inr ⟨by rfl, rfl⟩) (by assumption) ?_
            (try simp only [List.getElem_toArray, List.getElem_cons_succ, List.getElem_cons_zero, Act.put, List.setIfInBounds_toArray, List.set_cons_zero, List.set_cons_succ])
            refine wpAnyH_take (i := 14) rfl (by kernel_rfl) (by kernel_rfl) (by kernel_rfl) (fun _ _ _ h => h) (Or.inr ⟨by rfl, rfl⟩) (by assumption) ?_
            (try simp only [List.getElem_toArray, List.getElem_cons_succ, List.getElem_cons_zero, Act.put, List.setIfInBounds_toArray, List.set_cons_zero, List.set_cons_succ])
            refine wpAnyH_take (i := 15) rfl (by kernel_rfl) (by kernel_rfl) (by kernel_rfl) (fun _ _ _ h => h) (Or.inr ⟨by rfl, rfl⟩) (by assumption) ?_
            (try simp only [List.getElem_toArray, List.getElem_cons_succ, List.getElem_cons_zero, Act.put, List.setIfInBounds_toArray, List.set_cons_zero, List.set_cons_succ])
            refine wpAnyH_take (i := 16) rfl (by kernel_rfl) (by kernel_rfl) (by kernel_rfl) (fun _ _ _ h => h) (Or.inr ⟨by rfl, rfl⟩) (by assumption) ?_
            (try simp only [List.getElem_toArray, List.getElem_cons_succ, List.getElem_cons_zero, Act.put, List.setIfInBounds_toArray, List.set_cons_zero, List.set_cons_succ])
            refine wpAnyH_take (i := 17) rfl (by kernel_rfl) (by kernel_rfl) (by kernel_rfl) (fun _ _ _ h => h) (Or.inr ⟨by rfl, rfl⟩) (by assumption) ?_
            (try simp only [List.getElem_toArray, List.getElem_cons_succ, List.getElem_cons_zero, Act.put, List.setIfInBounds_toArray, List.set_cons_zero, List.set_cons_succ])
            refine wpAnyH_take (i := 18) rfl (by kernel_rfl) (by kernel_rfl) (by kernel_rfl) (fun _ _ _ h => h) (Or.inr ⟨by rfl, rfl⟩) (by assumption) ?_
            (try simp only [List.getElem_toArray, List.getElem_cons_succ, List.getElem_cons_zero, Act.put, List.setIfInBounds_toArray, List.set_cons_zero, List.set_cons_succ])
            refine wpAnyH_take (i := 19) (v := ?_) rfl (by kernel_rfl) (by kernel_rfl) (by kernel_rfl) (fun _ _ _ h => h) (Or.inl ⟨by rfl, ?_⟩) (by assumption) ?_
            rotate_left 1
            (intro w hSw; (try dsimp only at hSw); go_simp; (try with_reducible rfl))
            (try simp only [List.getElem_toArray, List.getElem_cons_succ, List.getElem_cons_zero, Act.put, List.setIfInBounds_toArray, List.set_cons_zero, List.set_cons_succ])
            refine wpAnyH_done (by kernel_rfl) ?_ _
            go_wp2_with fail
            go_meet
            exact ⟨rfl, by (repeat' (first | (with_reducible exact Below.refl _ _) | (with_reducible assumption) | (with_reducible refine Below.alloc ?_ ?_ _) | (with_reducible refine Below.setCell ?_ ?_ _) | (with_reducible refine Below.drew ?_) | (with_reducible refine Below.via (by assumption) ?_ ?_) | go_size))⟩
          exact AllReadyH.nil
        exact AllReadyH.nil
      exact AllReadyH.nil
    case rest =>
      obtain ⟨rfl, hbx⟩ := hcut
      clear x4 x5 x6 x7 x8 x9 l4 l5 l6 l7 l8 l9 y8 y9
      replace HB := Lib.hid (HB.out.below hbx)
      clear hbx
      have Ho := Lib.hid (show liftR m p g h = ([], [], false) by rw [liftR, if_neg (by simp [liftOk, hv, hq, ht1, ht2, ht3, hgc])])
      have x4 := HB.out.c4
      have l4 := World.block_lt_of_cell? _ _ x4
      have x5 := HB.out.c5
      have l5 := World.block_lt_of_cell? _ _ x5
      have x6 := HB.out.c6
      have l6 := World.block_lt_of_cell? _ _ x6
      have x7 := HB.out.c7
      have l7 := World.block_lt_of_cell? _ _ x7
      have x8 := HB.out.c8
      have l8 := World.block_lt_of_cell? _ _ x8
      have x9 := HB.out.c9
      have l9 := World.block_lt_of_cell? _ _ x9
      simp only at l4 l5 l6 l7 l8 l9
      have y8 := HB.out.f8
      have y9 := HB.out.f9
      go_wp2_with fail
      (try simp only [Exit.inBlock, Exit.then]); refine bodyPost_ret (by simp [results, Try.results18, go_sem, *]; try rfl) rfl ?_
      rw [Ho.out]
      exact ⟨_, _, w.heap.size, rfl, Nat.le_refl _, by have h1 := HB.out.bel.size; (try simp only [World.size_setCell, World.size_alloc, World.size_drew]); omega, OwR.nil _ _ _, OwR.nil _ _ _, by have h1 := HB.out.bel; have h2 := h1.size; (repeat' (first | (with_reducible exact Below.refl _ _) | (with_reducible assumption) | (with_reducible refine Below.alloc ?_ ?_ _) | (with_reducible refine Below.setCell ?_ ?_ _) | (with_reducible refine Below.drew ?_) | (with_reducible refine Below.via (by assumption) ?_ ?_) | go_size))⟩
  have HG := Lib.hid (show (monicF m (gcdZ m g h) == [1]) = true by rw [HGC.out]; simp [hgc])
  have BBW := Lib.hid HB.out.bel
  have Htl := Lib.hid (show trimZ (modsZ m p) ≠ [] ∧ (trimZ (modsZ m p)).length ≤ 17 by
    have h1 := Hvp.out.trd.1
    have h2 := Hvp.out.len
    have h3 : modsZ m p ≠ [] := List.ne_nil_of_length_pos (by rw [modsZ_length]; omega)
    exact ⟨(trimZ_trd h3).ne, Nat.le_trans (trimZ_len_le _) (by rw [modsZ_length]; exact h2)⟩)
  have Hbd := Lib.hid (show BdI 1000000000000000 p from fun i => by have := Hvp.out.bd i; constructor <;> omega)
  have hlp2 := Hvp.out.len
  have x4 := HB.out.c4
  have l4 := World.block_lt_of_cell? _ _ x4
  have x5 := HB.out.c5
  have l5 := World.block_lt_of_cell? _ _ x5
  have x6 := HB.out.c6
  have l6 := World.block_lt_of_cell? _ _ x6
  have x7 := HB.out.c7
  have l7 := World.block_lt_of_cell? _ _ x7
  have x8 := HB.out.c8
  have l8 := World.block_lt_of_cell? _ _ x8
  have x9 := HB.out.c9
  have l9 := World.block_lt_of_cell? _ _ x9
  simp only at l4 l5 l6 l7 l8 l9
  have y8 := HB.out.f8
  have y9 := HB.out.f9
  go_upto_region 3 with fail
  cases hmm : (mulF m g h == trimZ (modsZ m p))
  case false =>
    go_cut [88] (fun v wx => v = .bool true ∧ Below wdd3.heap.size wdd3 wx)
    case first =>
      as_aux_lemma =>
      refine wp_region_held_drew (S := fun w' => w'.cell? ⟨w.heap.size, 0, none⟩ = some (.slice pp p.length qp) ∧ w'.cell? ⟨w.heap.size + 1, 0, none⟩ = some (.slice pg g.length qg) ∧ w'.cell? ⟨w.heap.size + 1 + 1, 0, none⟩ = some (.slice ph h.length qh) ∧ w'.cell? ⟨w.heap.size + 1 + 1 + 1, 0, none⟩ = some (.int .i64 m)) (by kernel_rfl) (by (((try dsimp only); (repeat' (refine And.intro ?_ ?_)); all_goals (first | assumption | (refine (Below.cell (B := wdd3.heap.size) (w := wdd3) ?_ ?_).trans ?_ <;> (first | assumption | omega | (simp only; omega) | (skip; (repeat' (first | (with_reducible exact Below.refl _ _) | (with_reducible assumption) | (with_reducible refine Below.alloc ?_ ?_ _) | (with_reducible refine Below.setCell ?_ ?_ _) | (with_reducible refine Below.drew ?_) | (with_reducible refine Below.via (by assumption) ?_ ?_) | go_size)); done))) | (go_keep; done))))) (fun hHeld => ?_)
      refine wpAnyH_take (i := 0) (v := ?_) rfl (by kernel_rfl) (by kernel_rfl) (by kernel_rfl) (fun _ _ _ h => h) (Or.inl ⟨by rfl, ?_⟩) (by assumption) ?_
      rotate_left 1
      (intro w hSw; (try dsimp only at hSw); go_simp; (try with_reducible rfl))
      (try simp only [List.getElem_toArray, List.getElem_cons_succ, List.getElem_cons_zero, Act.put, List.setIfInBounds_toArray, List.set_cons_zero, List.set_cons_succ])
      refine wpAnyH_take (i := 1) (v := ?_) rfl (by kernel_rfl) (by kernel_rfl) (by kernel_rfl) (fun _ _ _ h => h) (Or.inl ⟨by rfl, ?_⟩) (by assumption) ?_
      rotate_left 1
      (intro w hSw; (try dsimp only at hSw); go_simp; (try with_reducible rfl))
      (try simp only [List.getElem_toArray, List.getElem_cons_succ, List.getElem_cons_zero, Act.put, List.setIfInBounds_toArray, List.set_cons_zero, List.set_cons_succ])
      refine wpAnyH_take (i := 2) (v := ?_) rfl (by kernel_rfl) (by kernel_rfl) (by kernel_rfl) (fun _ _ _ h => h) (Or.inl ⟨by rfl, ?_⟩) (by assumption) ?_
      rotate_left 1
      (intro w hSw; (try dsimp only at hSw); go_simp; (try with_reducible rfl))
      (try simp only [List.getElem_toArray, List.getElem_cons_succ, List.getElem_cons_zero, Act.put, List.setIfInBounds_toArray, List.set_cons_zero, List.set_cons_succ])
      refine wpAnyH_ready (rs := [3, 4]) (by kernel_rfl) (by simp) ?_
      refine AllReadyH.cons rfl (fun K3 hK3 => ?_) ?_
      · go_simp
        (go_at_call 81; ((with_reducible refine (common_impl _ _ g h m _ (Hg.out.below (BBW.out.trans (Below.mono (show Below wdd3.heap.size wdd3 _ by (repeat' (first | (with_reducible exact Below.refl _ _) | (with_reducible assumption) | (with_reducible refine Below.alloc ?_ ?_ _) | (with_reducible refine Below.setCell ?_ ?_ _) | (with_reducible refine Below.drew ?_) | (with_reducible refine Below.via (by assumption) ?_ ?_) | go_size))) BBW.out.size))) (Hh.out.below (BBW.out.trans (Below.mono (show Below wdd3.heap.size wdd3 _ by (repeat' (first | (with_reducible exact Below.refl _ _) | (with_reducible assumption) | (with_reducible refine Below.alloc ?_ ?_ _) | (with_reducible refine Below.setCell ?_ ?_ _) | (with_reducible refine Below.drew ?_) | (with_reducible refine Below.via (by assumption) ?_ ?_) | go_size))) BBW.out.size))) hm.out Og.out Oh.out).mono ?_); rintro e wc ⟨vc, rfl, oc, dc⟩; obtain ⟨pc, qc, rfl⟩ := oc.rd.shape; have Bc := (show Below wdd3.heap.size wdd3 wc by (repeat' (first | (with_reducible exact Below.refl _ _) | (with_reducible assumption) | (with_reducible refine Below.alloc ?_ ?_ _) | (with_reducible refine Below.setCell ?_ ?_ _) | (with_reducible refine Below.drew ?_) | (with_reducible refine Below.via (by assumption) ?_ ?_) | go_size))); have zc := Bc.size; have zc2 := dc.size; (try simp only [World.size_drew, World.size_alloc] at zc2); obtain ⟨cc, fc⟩ := bcell dc; (try have lc1 : wdd3.heap.size < wc.heap.size := by omega)))
        (try go_wp2_with fail)
        refine hK3.out _ _ ?_ (fun hHeld3 => ?_)
        · (((try dsimp only); (repeat' (refine And.intro ?_ ?_)); all_goals (first | assumption | (refine (Below.cell (B := wdd3.heap.size) (w := wdd3) ?_ ?_).trans ?_ <;> (first | assumption | omega | (simp only; omega) | (skip; (repeat' (first | (with_reducible exact Below.refl _ _) | (with_reducible assumption) | (with_reducible refine Below.alloc ?_ ?_ _) | (with_reducible refine Below.setCell ?_ ?_ _) | (with_reducible refine Below.drew ?_) | (with_reducible refine Below.via (by assumption) ?_ ?_) | go_size)); done))) | (go_keep; done))))
        clear hK3 K3
        (try simp only [List.getElem_toArray, List.getElem_cons_succ, List.getElem_cons_zero, Act.put, List.setIfInBounds_toArray, List.set_cons_zero, List.set_cons_succ])
        refine wpAnyH_ready (rs := [4]) (by kernel_rfl) (by simp) ?_
        refine AllReadyH.cons rfl (fun K4 hK4 => ?_) ?_
        · go_simp
          (try go_wp2_with fail)
          refine hK4.out _ _ ?_ (fun hHeld4 => ?_)
          · (((try dsimp only); (repeat' (refine And.intro ?_ ?_)); all_goals (first | assumption | (refine (Below.cell (B := wdd3.heap.size) (w := wdd3) ?_ ?_).trans ?_ <;> (first | assumption | omega | (simp only; omega) | (skip; (repeat' (first | (with_reducible exact Below.refl _ _) | (with_reducible assumption) | (with_reducible refine Below.alloc ?_ ?_ _) | (with_reducible refine Below.setCell ?_ ?_ _) | (with_reducible refine Below.drew ?_) | (with_reducible refine Below.via (by assumption) ?_ ?_) | go_size)); done))) | (go_keep; done))))
          clear hK4 K4
          (try simp only [List.getElem_toArray, List.getElem_cons_succ, List.getElem_cons_zero, Act.put, List.setIfInBounds_toArray, List.set_cons_zero, List.set_cons_succ])
          refine wpAnyH_take (i := 5) (v := ?_) rfl (by kernel_rfl) (by kernel_rfl) (by kernel_rfl) (fun _ _ _ h => h) (Or.inl ⟨by rfl, ?_⟩) (by assumption) ?_
          rotate_left 1
          (intro w hSw; (try dsimp only at hSw); go_simp; (try with_reducible rfl))
          (try simp only [List.getElem_toArray, List.getElem_cons_succ, List.getElem_cons_zero, Act.put, List.setIfInBounds_toArray, List.set_cons_zero, List.set_cons_succ])
          refine wpAnyH_ready (rs := [6]) (by kernel_rfl) (by simp) ?_
          refine AllReadyH.cons rfl (fun K6 hK6 => ?_) ?_
          · go_simp
            (go_at_call 26; ((with_reducible refine (same_any _ _ (monicF m (gcdZ m g h)) [1] _ (oc.rd.below (by (repeat' (first | (with_reducible exact Below.refl _ _) | (with_reducible assumption) | (with_reducible refine Below.alloc ?_ ?_ _) | (with_reducible refine Below.setCell ?_ ?_ _) | (with_reducible refine Below.drew ?_) | (with_reducible refine Below.via (by assumption) ?_ ?_) | go_size)))) (RdI.one (by go_simp)) HCn.out.1 (by simp) (by have := HCn.out.2; omega) (by simp)).mono ?_); rintro e ws ⟨rfl, ds⟩; rw [HG.out]; have Bs := (show Below wdd3.heap.size wdd3 ws by (repeat' (first | (with_reducible exact Below.refl _ _) | (with_reducible assumption) | (with_reducible refine Below.alloc ?_ ?_ _) | (with_reducible refine Below.setCell ?_ ?_ _) | (with_reducible refine Below.drew ?_) | (with_reducible refine Below.via (by assumption) ?_ ?_) | go_size))); have zs := Bs.size))
            (try go_wp2_with fail)
            refine hK6.out _ _ ?_ (fun hHeld6 => ?_)
            · (((try dsimp only); (repeat' (refine And.intro ?_ ?_)); all_goals (first | assumption | (refine (Below.cell (B := wdd3.heap.size) (w := wdd3) ?_ ?_).trans ?_ <;> (first | assumption | omega | (simp only; omega) | (skip; (repeat' (first | (with_reducible exact Below.refl _ _) | (with_reducible assumption) | (with_reducible refine Below.alloc ?_ ?_ _) | (with_reducible refine Below.setCell ?_ ?_ _) | (with_reducible refine Below.drew ?_) | (with_reducible refine Below.via (by assumption) ?_ ?_) | go_size)); done))) | (go_keep; done))))
            clear hK6 K6
            (try simp only [List.getElem_toArray, List.getElem_cons_succ, List.getElem_cons_zero, Act.put, List.setIfInBounds_toArray, List.set_cons_zero, List.set_cons_succ])
            refine wpAnyH_take (i := 7) (v := ?_) rfl (by kernel_rfl) (by kernel_rfl) (by kernel_rfl) (fun _ _ _ h => h) (Or.inl ⟨by rfl, ?_⟩) (by assumption) ?_
            rotate_left 1
            (intro w hSw; (try dsimp only at hSw); go_simp; (try with_reducible rfl))
            (try simp only [List.getElem_toArray, List.getElem_cons_succ, List.getElem_cons_zero, Act.put, List.setIfInBounds_toArray, List.set_cons_zero, List.set_cons_succ])
            refine wpAnyH_take (i := 8) (v := ?_) rfl (by kernel_rfl) (by kernel_rfl) (by kernel_rfl) (fun _ _ _ h => h) (Or.inl ⟨by rfl, ?_⟩) (by assumption) ?_
            rotate_left 1
            (intro w hSw; (try dsimp only at hSw); go_simp; (try with_reducible rfl))
            (try simp only [List.getElem_toArray, List.getElem_cons_succ, List.getElem_cons_zero, Act.put, List.setIfInBounds_toArray, List.set_cons_zero, List.set_cons_succ])
            refine wpAnyH_take (i := 9) (v := ?_) rfl (by kernel_rfl) (by kernel_rfl) (by kernel_rfl) (fun _ _ _ h => h) (Or.inl ⟨by rfl, ?_⟩) (by assumption) ?_
            rotate_left 1
            (intro w hSw; (try dsimp only at hSw); go_simp; (try with_reducible rfl))
            (try simp only [List.getElem_toArray, List.getElem_cons_succ, List.getElem_cons_zero, Act.put, List.setIfInBounds_toArray, List.set_cons_zero, List.set_cons_succ])
            refine wpAnyH_take (i := 10) (v := ?_) rfl (by kernel_rfl) (by kernel_rfl) (by kernel_rfl) (fun _ _ _ h => h) (Or.inl ⟨by rfl, ?_⟩) (by assumption) ?_
            rotate_left 1
            (intro w hSw; (try dsimp only at hSw); go_simp; (try with_reducible rfl))
            (try simp only [List.getElem_toArray, List.getElem_cons_succ, List.getElem_cons_zero, Act.put, List.setIfInBounds_toArray, List.set_cons_zero, List.set_cons_succ])
            refine wpAnyH_take (i := 11) (v := ?_) rfl (by kernel_rfl) (by kernel_rfl) (by kernel_rfl) (fun _ _ _ h => h) (Or.inl ⟨by rfl, ?_⟩) (by assumption) ?_
            rotate_left 1
            (intro w hSw; (try dsimp only at hSw); go_simp; (try with_reducible rfl))
            (try simp only [List.getElem_toArray, List.getElem_cons_succ, List.getElem_cons_zero, Act.put, List.setIfInBounds_toArray, List.set_cons_zero, List.set_cons_succ])
            refine wpAnyH_take (i := 13) (v := ?_) rfl (by kernel_rfl) (by kernel_rfl) (by kernel_rfl) (fun _ _ _ h => h) (Or.inl ⟨by rfl, ?_⟩) (by assumption) ?_
            rotate_left 1
            (intro w hSw; (try dsimp only at hSw); go_simp; (try with_reducible rfl))
            (try simp only [List.getElem_toArray, List.getElem_cons_succ, List.getElem_cons_zero, Act.put, List.setIfInBounds_toArray, List.set_cons_zero, List.set_cons_succ])
            refine wpAnyH_take (i := 14) (v := ?_) rfl (by kernel_rfl) (by kernel_rfl) (by kernel_rfl) (fun _ _ _ h => h) (Or.inl ⟨by rfl, ?_⟩) (by assumption) ?_
            rotate_left 1
            (intro w hSw; (try dsimp only at hSw); go_simp; (try with_reducible rfl))
            (try simp only [List.getElem_toArray, List.getElem_cons_succ, List.getElem_cons_zero, Act.put, List.setIfInBounds_toArray, List.set_cons_zero, List.set_cons_succ])
            refine wpAnyH_take (i := 15) (v := ?_) rfl (by kernel_rfl) (by kernel_rfl) (by kernel_rfl) (fun _ _ _ h => h) (Or.inl ⟨by rfl, ?_⟩) (by assumption) ?_
            rotate_left 1
            (intro w hSw; (try dsimp only at hSw); go_simp; (try with_reducible rfl))
            (try simp only [List.getElem_toArray, List.getElem_cons_succ, List.getElem_cons_zero, Act.put, List.setIfInBounds_toArray, List.set_cons_zero, List.set_cons_succ])
            refine wpAnyH_ready (rs := [12]) (by kernel_rfl) (by simp) ?_
            refine AllReadyH.cons rfl (fun K12 hK12 => ?_) ?_
            · go_simp
              (go_at_call 82; ((with_reducible refine (mulOver_impl _ _ g h m _ (Hg.out.below (BBW.out.trans (Below.mono (show Below wdd3.heap.size wdd3 _ by (repeat' (first | (with_reducible exact Below.refl _ _) | (with_reducible assumption) | (with_reducible refine Below.alloc ?_ ?_ _) | (with_reducible refine Below.setCell ?_ ?_ _) | (with_reducible refine Below.drew ?_) | (with_reducible refine Below.via (by assumption) ?_ ?_) | go_size))) BBW.out.size))) (Hh.out.below (BBW.out.trans (Below.mono (show Below wdd3.heap.size wdd3 _ by (repeat' (first | (with_reducible exact Below.refl _ _) | (with_reducible assumption) | (with_reducible refine Below.alloc ?_ ?_ _) | (with_reducible refine Below.setCell ?_ ?_ _) | (with_reducible refine Below.drew ?_) | (with_reducible refine Below.via (by assumption) ?_ ?_) | go_size))) BBW.out.size))) hm.out Og.out Oh.out (by omega)).mono ?_); rintro e wm ⟨vm, rfl, om, dm⟩; obtain ⟨pm, qm, rfl⟩ := om.rd.shape; have zm := dm.size; (try simp only [World.size_drew, World.size_alloc] at zm)))
              (try go_wp2_with fail)
              refine hK12.out _ _ ?_ (fun hHeld12 => ?_)
              · (((try dsimp only); (repeat' (refine And.intro ?_ ?_)); all_goals (first | assumption | (refine (Below.cell (B := wdd3.heap.size) (w := wdd3) ?_ ?_).trans ?_ <;> (first | assumption | omega | (simp only; omega) | (skip; (repeat' (first | (with_reducible exact Below.refl _ _) | (with_reducible assumption) | (with_reducible refine Below.alloc ?_ ?_ _) | (with_reducible refine Below.setCell ?_ ?_ _) | (with_reducible refine Below.drew ?_) | (with_reducible refine Below.via (by assumption) ?_ ?_) | go_size)); done))) | (go_keep; done))))
              clear hK12 K12
              (try simp only [List.getElem_toArray, List.getElem_cons_succ, List.getElem_cons_zero, Act.put, List.setIfInBounds_toArray, List.set_cons_zero, List.set_cons_succ])
              refine wpAnyH_ready (rs := [16]) (by kernel_rfl) (by simp) ?_
              refine AllReadyH.cons rfl (fun K16 hK16 => ?_) ?_
              · go_simp
                (go_at_call 83; ((with_reducible refine (over_impl _ p m _ (Hp.out.below (BBW.out.trans (Below.mono (show Below wdd3.heap.size wdd3 _ by (repeat' (first | (with_reducible exact Below.refl _ _) | (with_reducible assumption) | (with_reducible refine Below.alloc ?_ ?_ _) | (with_reducible refine Below.setCell ?_ ?_ _) | (with_reducible refine Below.drew ?_) | (with_reducible refine Below.via (by assumption) ?_ ?_) | go_size))) BBW.out.size))) (by omega) Hbd.out (by omega) (by omega)).mono ?_); rintro e wo ⟨vo, rfl, oo, do_⟩; obtain ⟨po, qo, rfl⟩ := oo.rd.shape; have zo := do_.size; (try simp only [World.size_drew, World.size_alloc] at zo)))
                (try go_wp2_with fail)
                refine hK16.out _ _ ?_ (fun hHeld16 => ?_)
                · (((try dsimp only); (repeat' (refine And.intro ?_ ?_)); all_goals (first | assumption | (refine (Below.cell (B := wdd3.heap.size) (w := wdd3) ?_ ?_).trans ?_ <;> (first | assumption | omega | (simp only; omega) | (skip; (repeat' (first | (with_reducible exact Below.refl _ _) | (with_reducible assumption) | (with_reducible refine Below.alloc ?_ ?_ _) | (with_reducible refine Below.setCell ?_ ?_ _) | (with_reducible refine Below.drew ?_) | (with_reducible refine Below.via (by assumption) ?_ ?_) | go_size)); done))) | (go_keep; done))))
                clear hK16 K16
                (try simp only [List.getElem_toArray, List.getElem_cons_succ, List.getElem_cons_zero, Act.put, List.setIfInBounds_toArray, List.set_cons_zero, List.set_cons_succ])
                refine wpAnyH_ready (rs := [17]) (by kernel_rfl) (by simp) ?_
                refine AllReadyH.cons rfl (fun K17 hK17 => ?_) ?_
                · go_simp
                  (go_at_call 26; ((with_reducible refine (same_any _ _ (mulF m g h) (trimZ (modsZ m p)) _ (om.rd.below (by (repeat' (first | (with_reducible exact Below.refl _ _) | (with_reducible assumption) | (with_reducible refine Below.alloc ?_ ?_ _) | (with_reducible refine Below.setCell ?_ ?_ _) | (with_reducible refine Below.drew ?_) | (with_reducible refine Below.via (by assumption) ?_ ?_) | go_size)))) (oo.rd.below (by (repeat' (first | (with_reducible exact Below.refl _ _) | (with_reducible assumption) | (with_reducible refine Below.alloc ?_ ?_ _) | (with_reducible refine Below.setCell ?_ ?_ _) | (with_reducible refine Below.drew ?_) | (with_reducible refine Below.via (by assumption) ?_ ?_) | go_size)))) Hmul.out.ne Htl.out.1 (by have := Hmul.out.len; omega) (by have := Htl.out.2; omega)).mono ?_); rw [hmm]; rintro e wt ⟨rfl, dt⟩))
                  (try go_wp2_with fail)
                  refine hK17.out _ _ ?_ (fun hHeld17 => ?_)
                  · (((try dsimp only); (repeat' (refine And.intro ?_ ?_)); all_goals (first | assumption | (refine (Below.cell (B := wdd3.heap.size) (w := wdd3) ?_ ?_).trans ?_ <;> (first | assumption | omega | (simp only; omega) | (skip; (repeat' (first | (with_reducible exact Below.refl _ _) | (with_reducible assumption) | (with_reducible refine Below.alloc ?_ ?_ _) | (with_reducible refine Below.setCell ?_ ?_ _) | (with_reducible refine Below.drew ?_) | (with_reducible refine Below.via (by assumption) ?_ ?_) | go_size)); done))) | (go_keep; done))))
                  clear hK17 K17
                  (try simp only [List.getElem_toArray, List.getElem_cons_succ, List.getElem_cons_zero, Act.put, List.setIfInBounds_toArray, List.set_cons_zero, List.set_cons_succ])
                  refine wpAnyH_take (i := 18) (v := ?_) rfl (by kernel_rfl) (by kernel_rfl) (by kernel_rfl) (fun _ _ _ h => h) (Or.inl ⟨by rfl, ?_⟩) (by assumption) ?_
                  rotate_left 1
                  (intro w hSw; (try dsimp only at hSw); go_simp; (try with_reducible rfl))
                  (try simp only [List.getElem_toArray, List.getElem_cons_succ, List.getElem_cons_zero, Act.put, List.setIfInBounds_toArray, List.set_cons_zero, List.set_cons_succ])
                  refine wpAnyH_take (i := 19) (v := ?_) rfl (by kernel_rfl) (by kernel_rfl) (by kernel_rfl) (fun _ _ _ h => h) (Or.inl ⟨by rfl, ?_⟩) (by assumption) ?_
                  rotate_left 1
                  (intro w hSw; (try dsimp only at hSw); go_simp; (try with_reducible rfl))
                  (try simp only [List.getElem_toArray, List.getElem_cons_succ, List.getElem_cons_zero, Act.put, List.setIfInBounds_toArray, List.set_cons_zero, List.set_cons_succ])
                  refine wpAnyH_done (by kernel_rfl) ?_ _
                  go_wp2_with fail
                  go_meet
                  exact ⟨rfl, by (repeat' (first | (with_reducible exact Below.refl _ _) | (with_reducible assumption) | (with_reducible refine Below.alloc ?_ ?_ _) | (with_reducible refine Below.setCell ?_ ?_ _) | (with_reducible refine Below.drew ?_) | (with_reducible refine Below.via (by assumption) ?_ ?_) | go_size))⟩
                exact AllReadyH.nil
              exact AllReadyH.nil
            exact AllReadyH.nil
          exact AllReadyH.nil
        exact AllReadyH.nil
      refine AllReadyH.cons rfl (fun K4 hK4 => ?_) ?_
      · go_simp
        (try go_wp2_with fail)
        refine hK4.out _ _ ?_ (fun hHeld4 => ?_)
        · (((try dsimp only); (repeat' (refine And.intro ?_ ?_)); all_goals (first | assumption | (refine (Below.cell (B := wdd3.heap.size) (w := wdd3) ?_ ?_).trans ?_ <;> (first | assumption | omega | (simp only; omega) | (skip; (repeat' (first | (with_reducible exact Below.refl _ _) | (with_reducible assumption) | (with_reducible refine Below.alloc ?_ ?_ _) | (with_reducible refine Below.setCell ?_ ?_ _) | (with_reducible refine Below.drew ?_) | (with_reducible refine Below.via (by assumption) ?_ ?_) | go_size)); done))) | (go_keep; done))))
        clear hK4 K4
        (try simp only [List.getElem_toArray, List.getElem_cons_succ, List.getElem_cons_zero, Act.put, List.setIfInBounds_toArray, List.set_cons_zero, List.set_cons_succ])
        refine wpAnyH_take (i := 5) (v := ?_) rfl (by kernel_rfl) (by kernel_rfl) (by kernel_rfl) (fun _ _ _ h => h) (Or.inl ⟨by rfl, ?_⟩) (by assumption) ?_
        rotate_left 1
        (intro w hSw; (try dsimp only at hSw); go_simp; (try with_reducible rfl))
        (try simp only [List.getElem_toArray, List.getElem_cons_succ, List.getElem_cons_zero, Act.put, List.setIfInBounds_toArray, List.set_cons_zero, List.set_cons_succ])
        refine wpAnyH_ready (rs := [3]) (by kernel_rfl) (by simp) ?_
        refine AllReadyH.cons rfl (fun K3 hK3 => ?_) ?_
        · go_simp
          (go_at_call 81; ((with_reducible refine (common_impl _ _ g h m _ (Hg.out.below (BBW.out.trans (Below.mono (show Below wdd3.heap.size wdd3 _ by (repeat' (first | (with_reducible exact Below.refl _ _) | (with_reducible assumption) | (with_reducible refine Below.alloc ?_ ?_ _) | (with_reducible refine Below.setCell ?_ ?_ _) | (with_reducible refine Below.drew ?_) | (with_reducible refine Below.via (by assumption) ?_ ?_) | go_size))) BBW.out.size))) (Hh.out.below (BBW.out.trans (Below.mono (show Below wdd3.heap.size wdd3 _ by (repeat' (first | (with_reducible exact Below.refl _ _) | (with_reducible assumption) | (with_reducible refine Below.alloc ?_ ?_ _) | (with_reducible refine Below.setCell ?_ ?_ _) | (with_reducible refine Below.drew ?_) | (with_reducible refine Below.via (by assumption) ?_ ?_) | go_size))) BBW.out.size))) hm.out Og.out Oh.out).mono ?_); rintro e wc ⟨vc, rfl, oc, dc⟩; obtain ⟨pc, qc, rfl⟩ := oc.rd.shape; have Bc := (show Below wdd3.heap.size wdd3 wc by (repeat' (first | (with_reducible exact Below.refl _ _) | (with_reducible assumption) | (with_reducible refine Below.alloc ?_ ?_ _) | (with_reducible refine Below.setCell ?_ ?_ _) | (with_reducible refine Below.drew ?_) | (with_reducible refine Below.via (by assumption) ?_ ?_) | go_size))); have zc := Bc.size; have zc2 := dc.size; (try simp only [World.size_drew, World.size_alloc] at zc2); obtain ⟨cc, fc⟩ := bcell dc; (try have lc1 : wdd3.heap.size < wc.heap.size := by omega)))
          (try go_wp2_with fail)
          refine hK3.out _ _ ?_ (fun hHeld3 => ?_)
          · (((try dsimp only); (repeat' (refine And.intro ?_ ?_)); all_goals (first | assumption | (refine (Below.cell (B := wdd3.heap.size) (w := wdd3) ?_ ?_).trans ?_ <;> (first | assumption | omega | (simp only; omega) | (skip; (repeat' (first | (with_reducible exact Below.refl _ _) | (with_reducible assumption) | (with_reducible refine Below.alloc ?_ ?_ _) | (with_reducible refine Below.setCell ?_ ?_ _) | (with_reducible refine Below.drew ?_) | (with_reducible refine Below.via (by assumption) ?_ ?_) | go_size)); done))) | (go_keep; done))))
          clear hK3 K3
          (try simp only [List.getElem_toArray, List.getElem_cons_succ, List.getElem_cons_zero, Act.put, List.setIfInBounds_toArray, List.set_cons_zero, List.set_cons_succ])
          refine wpAnyH_ready (rs := [6]) (by kernel_rfl) (by simp) ?_
          refine AllReadyH.cons rfl (fun K6 hK6 => ?_) ?_
          · go_simp
            (go_at_call 26; ((with_reducible refine (same_any _ _ (monicF m (gcdZ m g h)) [1] _ (oc.rd.below (by (repeat' (first | (with_reducible exact Below.refl _ _) | (with_reducible assumption) | (with_reducible refine Below.alloc ?_ ?_ _) | (with_reducible refine Below.setCell ?_ ?_ _) | (with_reducible refine Below.drew ?_) | (with_reducible refine Below.via (by assumption) ?_ ?_) | go_size)))) (RdI.one (by go_simp)) HCn.out.1 (by simp) (by have := HCn.out.2; omega) (by simp)).mono ?_); rintro e ws ⟨rfl, ds⟩; rw [HG.out]; have Bs := (show Below wdd3.heap.size wdd3 ws by (repeat' (first | (with_reducible exact Below.refl _ _) | (with_reducible assumption) | (with_reducible refine Below.alloc ?_ ?_ _) | (with_reducible refine Below.setCell ?_ ?_ _) | (with_reducible refine Below.drew ?_) | (with_reducible refine Below.via (by assumption) ?_ ?_) | go_size))); have zs := Bs.size))
            (try go_wp2_with fail)
            refine hK6.out _ _ ?_ (fun hHeld6 => ?_)
            · (((try dsimp only); (repeat' (refine And.intro ?_ ?_)); all_goals (first | assumption | (refine (Below.cell (B := wdd3.heap.size) (w := wdd3) ?_ ?_).trans ?_ <;> (first | assumption | omega | (simp only; omega) | (skip; (repeat' (first | (with_reducible exact Below.refl _ _) | (with_reducible assumption) | (with_reducible refine Below.alloc ?_ ?_ _) | (with_reducible refine Below.setCell ?_ ?_ _) | (with_reducible refine Below.drew ?_) | (with_reducible refine Below.via (by assumption) ?_ ?_) | go_size)); done))) | (go_keep; done))))
            clear hK6 K6
            (try simp only [List.getElem_toArray, List.getElem_cons_succ, List.getElem_cons_zero, Act.put, List.setIfInBounds_toArray, List.set_cons_zero, List.set_cons_succ])
            refine wpAnyH_take (i := 7) (v := ?_) rfl (by kernel_rfl) (by kernel_rfl) (by kernel_rfl) (fun _ _ _ h => h) (Or.inl ⟨by rfl, ?_⟩) (by assumption) ?_
            rotate_left 1
            (intro w hSw; (try dsimp only at hSw); go_simp; (try with_reducible rfl))
            (try simp only [List.getElem_toArray, List.getElem_cons_succ, List.getElem_cons_zero, Act.put, List.setIfInBounds_toArray, List.set_cons_zero, List.set_cons_succ])
            refine wpAnyH_take (i := 8) (v := ?_) rfl (by kernel_rfl) (by kernel_rfl) (by kernel_rfl) (fun _ _ _ h => h) (Or.inl ⟨by rfl, ?_⟩) (by assumption) ?_
            rotate_left 1
            (intro w hSw; (try dsimp only at hSw); go_simp; (try with_reducible rfl))
            (try simp only [List.getElem_toArray, List.getElem_cons_succ, List.getElem_cons_zero, Act.put, List.setIfInBounds_toArray, List.set_cons_zero, List.set_cons_succ])
            refine wpAnyH_take (i := 9) (v := ?_) rfl (by kernel_rfl) (by kernel_rfl) (by kernel_rfl) (fun _ _ _ h => h) (Or.inl ⟨by rfl, ?_⟩) (by assumption) ?_
            rotate_left 1
            (intro w hSw; (try dsimp only at hSw); go_simp; (try with_reducible rfl))
            (try simp only [List.getElem_toArray, List.getElem_cons_succ, List.getElem_cons_zero, Act.put, List.setIfInBounds_toArray, List.set_cons_zero, List.set_cons_succ])
            refine wpAnyH_take (i := 10) (v := ?_) rfl (by kernel_rfl) (by kernel_rfl) (by kernel_rfl) (fun _ _ _ h => h) (Or.inl ⟨by rfl, ?_⟩) (by assumption) ?_
            rotate_left 1
            (intro w hSw; (try dsimp only at hSw); go_simp; (try with_reducible rfl))
            (try simp only [List.getElem_toArray, List.getElem_cons_succ, List.getElem_cons_zero, Act.put, List.setIfInBounds_toArray, List.set_cons_zero, List.set_cons_succ])
            refine wpAnyH_take (i := 11) (v := ?_) rfl (by kernel_rfl) (by kernel_rfl) (by kernel_rfl) (fun _ _ _ h => h) (Or.inl ⟨by rfl, ?_⟩) (by assumption) ?_
            rotate_left 1
            (intro w hSw; (try dsimp only at hSw); go_simp; (try with_reducible rfl))
            (try simp only [List.getElem_toArray, List.getElem_cons_succ, List.getElem_cons_zero, Act.put, List.setIfInBounds_toArray, List.set_cons_zero, List.set_cons_succ])
            refine wpAnyH_take (i := 13) (v := ?_) rfl (by kernel_rfl) (by kernel_rfl) (by kernel_rfl) (fun _ _ _ h => h) (Or.inl ⟨by rfl, ?_⟩) (by assumption) ?_
            rotate_left 1
            (intro w hSw; (try dsimp only at hSw); go_simp; (try with_reducible rfl))
            (try simp only [List.getElem_toArray, List.getElem_cons_succ, List.getElem_cons_zero, Act.put, List.setIfInBounds_toArray, List.set_cons_zero, List.set_cons_succ])
            refine wpAnyH_take (i := 14) (v := ?_) rfl (by kernel_rfl) (by kernel_rfl) (by kernel_rfl) (fun _ _ _ h => h) (Or.inl ⟨by rfl, ?_⟩) (by assumption) ?_
            rotate_left 1
            (intro w hSw; (try dsimp only at hSw); go_simp; (try with_reducible rfl))
            (try simp only [List.getElem_toArray, List.getElem_cons_succ, List.getElem_cons_zero, Act.put, List.setIfInBounds_toArray, List.set_cons_zero, List.set_cons_succ])
            refine wpAnyH_take (i := 15) (v := ?_) rfl (by kernel_rfl) (by kernel_rfl) (by kernel_rfl) (fun _ _ _ h => h) (Or.inl ⟨by rfl, ?_⟩) (by assumption) ?_
            rotate_left 1
            (intro w hSw; (try dsimp only at hSw); go_simp; (try with_reducible rfl))
            (try simp only [List.getElem_toArray, List.getElem_cons_succ, List.getElem_cons_zero, Act.put, List.setIfInBounds_toArray, List.set_cons_zero, List.set_cons_succ])
            refine wpAnyH_ready (rs := [12]) (by kernel_rfl) (by simp) ?_
            refine AllReadyH.cons rfl (fun K12 hK12 => ?_) ?_
            · go_simp
              (go_at_call 82; ((with_reducible refine (mulOver_impl _ _ g h m _ (Hg.out.below (BBW.out.trans (Below.mono (show Below wdd3.heap.size wdd3 _ by (repeat' (first | (with_reducible exact Below.refl _ _) | (with_reducible assumption) | (with_reducible refine Below.alloc ?_ ?_ _) | (with_reducible refine Below.setCell ?_ ?_ _) | (with_reducible refine Below.drew ?_) | (with_reducible refine Below.via (by assumption) ?_ ?_) | go_size))) BBW.out.size))) (Hh.out.below (BBW.out.trans (Below.mono (show Below wdd3.heap.size wdd3 _ by (repeat' (first | (with_reducible exact Below.refl _ _) | (with_reducible assumption) | (with_reducible refine Below.alloc ?_ ?_ _) | (with_reducible refine Below.setCell ?_ ?_ _) | (with_reducible refine Below.drew ?_) | (with_reducible refine Below.via (by assumption) ?_ ?_) | go_size))) BBW.out.size))) hm.out Og.out Oh.out (by omega)).mono ?_); rintro e wm ⟨vm, rfl, om, dm⟩; obtain ⟨pm, qm, rfl⟩ := om.rd.shape; have zm := dm.size; (try simp only [World.size_drew, World.size_alloc] at zm)))
              (try go_wp2_with fail)
              refine hK12.out _ _ ?_ (fun hHeld12 => ?_)
              · (((try dsimp only); (repeat' (refine And.intro ?_ ?_)); all_goals (first | assumption | (refine (Below.cell (B := wdd3.heap.size) (w := wdd3) ?_ ?_).trans ?_ <;> (first | assumption | omega | (simp only; omega) | (skip; (repeat' (first | (with_reducible exact Below.refl _ _) | (with_reducible assumption) | (with_reducible refine Below.alloc ?_ ?_ _) | (with_reducible refine Below.setCell ?_ ?_ _) | (with_reducible refine Below.drew ?_) | (with_reducible refine Below.via (by assumption) ?_ ?_) | go_size)); done))) | (go_keep; done))))
              clear hK12 K12
              (try simp only [List.getElem_toArray, List.getElem_cons_succ, List.getElem_cons_zero, Act.put, List.setIfInBounds_toArray, List.set_cons_zero, List.set_cons_succ])
              refine wpAnyH_ready (rs := [16]) (by kernel_rfl) (by simp) ?_
              refine AllReadyH.cons rfl (fun K16 hK16 => ?_) ?_
              · go_simp
                (go_at_call 83; ((with_reducible refine (over_impl _ p m _ (Hp.out.below (BBW.out.trans (Below.mono (show Below wdd3.heap.size wdd3 _ by (repeat' (first | (with_reducible exact Below.refl _ _) | (with_reducible assumption) | (with_reducible refine Below.alloc ?_ ?_ _) | (with_reducible refine Below.setCell ?_ ?_ _) | (with_reducible refine Below.drew ?_) | (with_reducible refine Below.via (by assumption) ?_ ?_) | go_size))) BBW.out.size))) (by omega) Hbd.out (by omega) (by omega)).mono ?_); rintro e wo ⟨vo, rfl, oo, do_⟩; obtain ⟨po, qo, rfl⟩ := oo.rd.shape; have zo := do_.size; (try simp only [World.size_drew, World.size_alloc] at zo)))
                (try go_wp2_with fail)
                refine hK16.out _ _ ?_ (fun hHeld16 => ?_)
                · (((try dsimp only); (repeat' (refine And.intro ?_ ?_)); all_goals (first | assumption | (refine (Below.cell (B := wdd3.heap.size) (w := wdd3) ?_ ?_).trans ?_ <;> (first | assumption | omega | (simp only; omega) | (skip; (repeat' (first | (with_reducible exact Below.refl _ _) | (with_reducible assumption) | (with_reducible refine Below.alloc ?_ ?_ _) | (with_reducible refine Below.setCell ?_ ?_ _) | (with_reducible refine Below.drew ?_) | (with_reducible refine Below.via (by assumption) ?_ ?_) | go_size)); done))) | (go_keep; done))))
                clear hK16 K16
                (try simp only [List.getElem_toArray, List.getElem_cons_succ, List.getElem_cons_zero, Act.put, List.setIfInBounds_toArray, List.set_cons_zero, List.set_cons_succ])
                refine wpAnyH_ready (rs := [17]) (by kernel_rfl) (by simp) ?_
                refine AllReadyH.cons rfl (fun K17 hK17 => ?_) ?_
                · go_simp
                  (go_at_call 26; ((with_reducible refine (same_any _ _ (mulF m g h) (trimZ (modsZ m p)) _ (om.rd.below (by (repeat' (first | (with_reducible exact Below.refl _ _) | (with_reducible assumption) | (with_reducible refine Below.alloc ?_ ?_ _) | (with_reducible refine Below.setCell ?_ ?_ _) | (with_reducible refine Below.drew ?_) | (with_reducible refine Below.via (by assumption) ?_ ?_) | go_size)))) (oo.rd.below (by (repeat' (first | (with_reducible exact Below.refl _ _) | (with_reducible assumption) | (with_reducible refine Below.alloc ?_ ?_ _) | (with_reducible refine Below.setCell ?_ ?_ _) | (with_reducible refine Below.drew ?_) | (with_reducible refine Below.via (by assumption) ?_ ?_) | go_size)))) Hmul.out.ne Htl.out.1 (by have := Hmul.out.len; omega) (by have := Htl.out.2; omega)).mono ?_); rw [hmm]; rintro e wt ⟨rfl, dt⟩))
                  (try go_wp2_with fail)
                  refine hK17.out _ _ ?_ (fun hHeld17 => ?_)
                  · (((try dsimp only); (repeat' (refine And.intro ?_ ?_)); all_goals (first | assumption | (refine (Below.cell (B := wdd3.heap.size) (w := wdd3) ?_ ?_).trans ?_ <;> (first | assumption | omega | (simp only; omega) | (skip; (repeat' (first | (with_reducible exact Below.refl _ _) | (with_reducible assumption) | (with_reducible refine Below.alloc ?_ ?_ _) | (with_reducible refine Below.setCell ?_ ?_ _) | (with_reducible refine Below.drew ?_) | (with_reducible refine Below.via (by assumption) ?_ ?_) | go_size)); done))) | (go_keep; done))))
                  clear hK17 K17
                  (try simp only [List.getElem_toArray, List.getElem_cons_succ, List.getElem_cons_zero, Act.put, List.setIfInBounds_toArray, List.set_cons_zero, List.set_cons_succ])
                  refine wpAnyH_take (i := 18) (v := ?_) rfl (by kernel_rfl) (by kernel_rfl) (by kernel_rfl) (fun _ _ _ h => h) (Or.inl ⟨by rfl, ?_⟩) (by assumption) ?_
                  rotate_left 1
                  (intro w hSw; (try dsimp only at hSw); go_simp; (try with_reducible rfl))
                  (try simp only [List.getElem_toArray, List.getElem_cons_succ, List.getElem_cons_zero, Act.put, List.setIfInBounds_toArray, List.set_cons_zero, List.set_cons_succ])
                  refine wpAnyH_take (i := 19) (v := ?_) rfl (by kernel_rfl) (by kernel_rfl) (by kernel_rfl) (fun _ _ _ h => h) (Or.inl ⟨by rfl, ?_⟩) (by assumption) ?_
                  rotate_left 1
                  (intro w hSw; (try dsimp only at hSw); go_simp; (try with_reducible rfl))
                  (try simp only [List.getElem_toArray, List.getElem_cons_succ, List.getElem_cons_zero, Act.put, List.setIfInBounds_toArray, List.set_cons_zero, List.set_cons_succ])
                  refine wpAnyH_done (by kernel_rfl) ?_ _
                  go_wp2_with fail
                  go_meet
                  exact ⟨rfl, by (repeat' (first | (with_reducible exact Below.refl _ _) | (with_reducible assumption) | (with_reducible refine Below.alloc ?_ ?_ _) | (with_reducible refine Below.setCell ?_ ?_ _) | (with_reducible refine Below.drew ?_) | (with_reducible refine Below.via (by assumption) ?_ ?_) | go_size))⟩
                exact AllReadyH.nil
              exact AllReadyH.nil
            exact AllReadyH.nil
          exact AllReadyH.nil
        exact AllReadyH.nil
      exact AllReadyH.nil
    case rest =>
      obtain ⟨rfl, hbx⟩ := hcut
      rename World => wx
      replace HB := Lib.hid (HB.out.below hbx)
      clear x4 x5 x6 x7 x8 x9 l4 l5 l6 l7 l8 l9 y8 y9 hbx
      have Ho := Lib.hid (show liftR m p g h = ([], [], false) by rw [liftR, if_neg (by simp [liftOk, hv, hq, ht1, ht2, ht3, hmm, hgc])])
      have x4 := HB.out.c4
      have l4 := World.block_lt_of_cell? _ _ x4
      have x5 := HB.out.c5
      have l5 := World.block_lt_of_cell? _ _ x5
      have x6 := HB.out.c6
      have l6 := World.block_lt_of_cell? _ _ x6
      have x7 := HB.out.c7
      have l7 := World.block_lt_of_cell? _ _ x7
      have x8 := HB.out.c8
      have l8 := World.block_lt_of_cell? _ _ x8
      have x9 := HB.out.c9
      have l9 := World.block_lt_of_cell? _ _ x9
      simp only at l4 l5 l6 l7 l8 l9
      have y8 := HB.out.f8
      have y9 := HB.out.f9
      go_wp2_with fail
      (try simp only [Exit.inBlock, Exit.then]); refine bodyPost_ret (by simp [results, Try.results18, go_sem, *]; try rfl) rfl ?_
      rw [Ho.out]
      exact ⟨_, _, w.heap.size, rfl, Nat.le_refl _, by have h1 := HB.out.bel.size; (try simp only [World.size_setCell, World.size_alloc, World.size_drew]); omega, OwR.nil _ _ _, OwR.nil _ _ _, by have h1 := HB.out.bel; have h2 := h1.size; (repeat' (first | (with_reducible exact Below.refl _ _) | (with_reducible assumption) | (with_reducible refine Below.alloc ?_ ?_ _) | (with_reducible refine Below.setCell ?_ ?_ _) | (with_reducible refine Below.drew ?_) | (with_reducible refine Below.via (by assumption) ?_ ?_) | go_size))⟩
  have hok : liftOk m p g h = true := by
    obtain ⟨hq1, hq2⟩ := Bool.and_eq_true_iff.1 hq
    simp [liftOk, hv, hq1, hq2, ht1, ht2, ht3, hmm, hgc]; omega
  have Ho := Lib.hid (show liftR m p g h = (liftZ m g (upU m p g h), liftZ m h (upV m p g h), true) by rw [liftR, if_pos hok])
  have C := Lib.hid (liftOk_c hok).1
  go_cut [88] (fun v wx => v = .bool false ∧ Below wdd3.heap.size wdd3 wx)
  case first =>
    as_aux_lemma =>
    refine wp_region_held_drew (S := fun w' => w'.cell? ⟨w.heap.size, 0, none⟩ = some (.slice pp p.length qp) ∧ w'.cell? ⟨w.heap.size + 1, 0, none⟩ = some (.slice pg g.length qg) ∧ w'.cell? ⟨w.heap.size + 1 + 1, 0, none⟩ = some (.slice ph h.length qh) ∧ w'.cell? ⟨w.heap.size + 1 + 1 + 1, 0, none⟩ = some (.int .i64 m)) (by kernel_rfl) (by (((try dsimp only); (repeat' (refine And.intro ?_ ?_)); all_goals (first | assumption | (refine (Below.cell (B := wdd3.heap.size) (w := wdd3) ?_ ?_).trans ?_ <;> (first | assumption | omega | (simp only; omega) | (skip; (repeat' (first | (with_reducible exact Below.refl _ _) | (with_reducible assumption) | (with_reducible refine Below.alloc ?_ ?_ _) | (with_reducible refine Below.setCell ?_ ?_ _) | (with_reducible refine Below.drew ?_) | (with_reducible refine Below.via (by assumption) ?_ ?_) | go_size)); done))) | (go_keep; done))))) (fun hHeld => ?_)
    refine wpAnyH_take (i := 0) (v := ?_) rfl (by kernel_rfl) (by kernel_rfl) (by kernel_rfl) (fun _ _ _ h => h) (Or.inl ⟨by rfl, ?_⟩) (by assumption) ?_
    rotate_left 1
    (intro w hSw; (try dsimp only at hSw); go_simp; (try with_reducible rfl))
    (try simp only [List.getElem_toArray, List.getElem_cons_succ, List.getElem_cons_zero, Act.put, List.setIfInBounds_toArray, List.set_cons_zero, List.set_cons_succ])
    refine wpAnyH_take (i := 1) (v := ?_) rfl (by kernel_rfl) (by kernel_rfl) (by kernel_rfl) (fun _ _ _ h => h) (Or.inl ⟨by rfl, ?_⟩) (by assumption) ?_
    rotate_left 1
    (intro w hSw; (try dsimp only at hSw); go_simp; (try with_reducible rfl))
    (try simp only [List.getElem_toArray, List.getElem_cons_succ, List.getElem_cons_zero, Act.put, List.setIfInBounds_toArray, List.set_cons_zero, List.set_cons_succ])
    refine wpAnyH_take (i := 2) (v := ?_) rfl (by kernel_rfl) (by kernel_rfl) (by kernel_rfl) (fun _ _ _ h => h) (Or.inl ⟨by rfl, ?_⟩) (by assumption) ?_
    rotate_left 1
    (intro w hSw; (try dsimp only at hSw); go_simp; (try with_reducible rfl))
    (try simp only [List.getElem_toArray, List.getElem_cons_succ, List.getElem_cons_zero, Act.put, List.setIfInBounds_toArray, List.set_cons_zero, List.set_cons_succ])
    refine wpAnyH_ready (rs := [3, 4]) (by kernel_rfl) (by simp) ?_
    refine AllReadyH.cons rfl (fun K3 hK3 => ?_) ?_
    · go_simp
      (go_at_call 81; ((with_reducible refine (common_impl _ _ g h m _ (Hg.out.below (BBW.out.trans (Below.mono (show Below wdd3.heap.size wdd3 _ by (repeat' (first | (with_reducible exact Below.refl _ _) | (with_reducible assumption) | (with_reducible refine Below.alloc ?_ ?_ _) | (with_reducible refine Below.setCell ?_ ?_ _) | (with_reducible refine Below.drew ?_) | (with_reducible refine Below.via (by assumption) ?_ ?_) | go_size))) BBW.out.size))) (Hh.out.below (BBW.out.trans (Below.mono (show Below wdd3.heap.size wdd3 _ by (repeat' (first | (with_reducible exact Below.refl _ _) | (with_reducible assumption) | (with_reducible refine Below.alloc ?_ ?_ _) | (with_reducible refine Below.setCell ?_ ?_ _) | (with_reducible refine Below.drew ?_) | (with_reducible refine Below.via (by assumption) ?_ ?_) | go_size))) BBW.out.size))) hm.out Og.out Oh.out).mono ?_); rintro e wc ⟨vc, rfl, oc, dc⟩; obtain ⟨pc, qc, rfl⟩ := oc.rd.shape; have Bc := (show Below wdd3.heap.size wdd3 wc by (repeat' (first | (with_reducible exact Below.refl _ _) | (with_reducible assumption) | (with_reducible refine Below.alloc ?_ ?_ _) | (with_reducible refine Below.setCell ?_ ?_ _) | (with_reducible refine Below.drew ?_) | (with_reducible refine Below.via (by assumption) ?_ ?_) | go_size))); have zc := Bc.size; have zc2 := dc.size; (try simp only [World.size_drew, World.size_alloc] at zc2); obtain ⟨cc, fc⟩ := bcell dc; (try have lc1 : wdd3.heap.size < wc.heap.size := by omega)))
      (try go_wp2_with fail)
      refine hK3.out _ _ ?_ (fun hHeld3 => ?_)
      · (((try dsimp only); (repeat' (refine And.intro ?_ ?_)); all_goals (first | assumption | (refine (Below.cell (B := wdd3.heap.size) (w := wdd3) ?_ ?_).trans ?_ <;> (first | assumption | omega | (simp only; omega) | (skip; (repeat' (first | (with_reducible exact Below.refl _ _) | (with_reducible assumption) | (with_reducible refine Below.alloc ?_ ?_ _) | (with_reducible refine Below.setCell ?_ ?_ _) | (with_reducible refine Below.drew ?_) | (with_reducible refine Below.via (by assumption) ?_ ?_) | go_size)); done))) | (go_keep; done))))
      clear hK3 K3
      (try simp only [List.getElem_toArray, List.getElem_cons_succ, List.getElem_cons_zero, Act.put, List.setIfInBounds_toArray, List.set_cons_zero, List.set_cons_succ])
      refine wpAnyH_ready (rs := [4]) (by kernel_rfl) (by simp) ?_
      refine AllReadyH.cons rfl (fun K4 hK4 => ?_) ?_
      · go_simp
        (try go_wp2_with fail)
        refine hK4.out _ _ ?_ (fun hHeld4 => ?_)
        · (((try dsimp only); (repeat' (refine And.intro ?_ ?_)); all_goals (first | assumption | (refine (Below.cell (B := wdd3.heap.size) (w := wdd3) ?_ ?_).trans ?_ <;> (first | assumption | omega | (simp only; omega) | (skip; (repeat' (first | (with_reducible exact Below.refl _ _) | (with_reducible assumption) | (with_reducible refine Below.alloc ?_ ?_ _) | (with_reducible refine Below.setCell ?_ ?_ _) | (with_reducible refine Below.drew ?_) | (with_reducible refine Below.via (by assumption) ?_ ?_) | go_size)); done))) | (go_keep; done))))
        clear hK4 K4
        (try simp only [List.getElem_toArray, List.getElem_cons_succ, List.getElem_cons_zero, Act.put, List.setIfInBounds_toArray, List.set_cons_zero, List.set_cons_succ])
        refine wpAnyH_take (i := 5) (v := ?_) rfl (by kernel_rfl) (by kernel_rfl) (by kernel_rfl) (fun _ _ _ h => h) (Or.inl ⟨by rfl, ?_⟩) (by assumption) ?_
        rotate_left 1
        (intro w hSw; (try dsimp only at hSw); go_simp; (try with_reducible rfl))
        (try simp only [List.getElem_toArray, List.getElem_cons_succ, List.getElem_cons_zero, Act.put, List.setIfInBounds_toArray, List.set_cons_zero, List.set_cons_succ])
        refine wpAnyH_ready (rs := [6]) (by kernel_rfl) (by simp) ?_
        refine AllReadyH.cons rfl (fun K6 hK6 => ?_) ?_
        · go_simp
          (go_at_call 26; ((with_reducible refine (same_any _ _ (monicF m (gcdZ m g h)) [1] _ (oc.rd.below (by (repeat' (first | (with_reducible exact Below.refl _ _) | (with_reducible assumption) | (with_reducible refine Below.alloc ?_ ?_ _) | (with_reducible refine Below.setCell ?_ ?_ _) | (with_reducible refine Below.drew ?_) | (with_reducible refine Below.via (by assumption) ?_ ?_) | go_size)))) (RdI.one (by go_simp)) HCn.out.1 (by simp) (by have := HCn.out.2; omega) (by simp)).mono ?_); rintro e ws ⟨rfl, ds⟩; rw [HG.out]; have Bs := (show Below wdd3.heap.size wdd3 ws by (repeat' (first | (with_reducible exact Below.refl _ _) | (with_reducible assumption) | (with_reducible refine Below.alloc ?_ ?_ _) | (with_reducible refine Below.setCell ?_ ?_ _) | (with_reducible refine Below.drew ?_) | (with_reducible refine Below.via (by assumption) ?_ ?_) | go_size))); have zs := Bs.size))
          (try go_wp2_with fail)
          refine hK6.out _ _ ?_ (fun hHeld6 => ?_)
          · (((try dsimp only); (repeat' (refine And.intro ?_ ?_)); all_goals (first | assumption | (refine (Below.cell (B := wdd3.heap.size) (w := wdd3) ?_ ?_).trans ?_ <;> (first | assumption | omega | (simp only; omega) | (skip; (repeat' (first | (with_reducible exact Below.refl _ _) | (with_reducible assumption) | (with_reducible refine Below.alloc ?_ ?_ _) | (with_reducible refine Below.setCell ?_ ?_ _) | (with_reducible refine Below.drew ?_) | (with_reducible refine Below.via (by assumption) ?_ ?_) | go_size)); done))) | (go_keep; done))))
          clear hK6 K6
          (try simp only [List.getElem_toArray, List.getElem_cons_succ, List.getElem_cons_zero, Act.put, List.setIfInBounds_toArray, List.set_cons_zero, List.set_cons_succ])
          refine wpAnyH_take (i := 7) (v := ?_) rfl (by kernel_rfl) (by kernel_rfl) (by kernel_rfl) (fun _ _ _ h => h) (Or.inl ⟨by rfl, ?_⟩) (by assumption) ?_
          rotate_left 1
          (intro w hSw; (try dsimp only at hSw); go_simp; (try with_reducible rfl))
          (try simp only [List.getElem_toArray, List.getElem_cons_succ, List.getElem_cons_zero, Act.put, List.setIfInBounds_toArray, List.set_cons_zero, List.set_cons_succ])
          refine wpAnyH_take (i := 8) (v := ?_) rfl (by kernel_rfl) (by kernel_rfl) (by kernel_rfl) (fun _ _ _ h => h) (Or.inl ⟨by rfl, ?_⟩) (by assumption) ?_
          rotate_left 1
          (intro w hSw; (try dsimp only at hSw); go_simp; (try with_reducible rfl))
          (try simp only [List.getElem_toArray, List.getElem_cons_succ, List.getElem_cons_zero, Act.put, List.setIfInBounds_toArray, List.set_cons_zero, List.set_cons_succ])
          refine wpAnyH_take (i := 9) (v := ?_) rfl (by kernel_rfl) (by kernel_rfl) (by kernel_rfl) (fun _ _ _ h => h) (Or.inl ⟨by rfl, ?_⟩) (by assumption) ?_
          rotate_left 1
          (intro w hSw; (try dsimp only at hSw); go_simp; (try with_reducible rfl))
          (try simp only [List.getElem_toArray, List.getElem_cons_succ, List.getElem_cons_zero, Act.put, List.setIfInBounds_toArray, List.set_cons_zero, List.set_cons_succ])
          refine wpAnyH_take (i := 10) (v := ?_) rfl (by kernel_rfl) (by kernel_rfl) (by kernel_rfl) (fun _ _ _ h => h) (Or.inl ⟨by rfl, ?_⟩) (by assumption) ?_
          rotate_left 1
          (intro w hSw; (try dsimp only at hSw); go_simp; (try with_reducible rfl))
          (try simp only [List.getElem_toArray, List.getElem_cons_succ, List.getElem_cons_zero, Act.put, List.setIfInBounds_toArray, List.set_cons_zero, List.set_cons_succ])
          refine wpAnyH_take (i := 11) (v := ?_) rfl (by kernel_rfl) (by kernel_rfl) (by kernel_rfl) (fun _ _ _ h => h) (Or.inl ⟨by rfl, ?_⟩) (by assumption) ?_
          rotate_left 1
          (intro w hSw; (try dsimp only at hSw); go_simp; (try with_reducible rfl))
          (try simp only [List.getElem_toArray, List.getElem_cons_succ, List.getElem_cons_zero, Act.put, List.setIfInBounds_toArray, List.set_cons_zero, List.set_cons_succ])
          refine wpAnyH_take (i := 13) (v := ?_) rfl (by kernel_rfl) (by kernel_rfl) (by kernel_rfl) (fun _ _ _ h => h) (Or.inl ⟨by rfl, ?_⟩) (by assumption) ?_
          rotate_left 1
          (intro w hSw; (try dsimp only at hSw); go_simp; (try with_reducible rfl))
          (try simp only [List.getElem_toArray, List.getElem_cons_succ, List.getElem_cons_zero, Act.put, List.setIfInBounds_toArray, List.set_cons_zero, List.set_cons_succ])
          refine wpAnyH_take (i := 14) (v := ?_) rfl (by kernel_rfl) (by kernel_rfl) (by kernel_rfl) (fun _ _ _ h => h) (Or.inl ⟨by rfl, ?_⟩) (by assumption) ?_
          rotate_left 1
          (intro w hSw; (try dsimp only at hSw); go_simp; (try with_reducible rfl))
          (try simp only [List.getElem_toArray, List.getElem_cons_succ, List.getElem_cons_zero, Act.put, List.setIfInBounds_toArray, List.set_cons_zero, List.set_cons_succ])
          refine wpAnyH_take (i := 15) (v := ?_) rfl (by kernel_rfl) (by kernel_rfl) (by kernel_rfl) (fun _ _ _ h => h) (Or.inl ⟨by rfl, ?_⟩) (by assumption) ?_
          rotate_left 1
          (intro w hSw; (try dsimp only at hSw); go_simp; (try with_reducible rfl))
          (try simp only [List.getElem_toArray, List.getElem_cons_succ, List.getElem_cons_zero, Act.put, List.setIfInBounds_toArray, List.set_cons_zero, List.set_cons_succ])
          refine wpAnyH_ready (rs := [12]) (by kernel_rfl) (by simp) ?_
          refine AllReadyH.cons rfl (fun K12 hK12 => ?_) ?_
          · go_simp
            (go_at_call 82; ((with_reducible refine (mulOver_impl _ _ g h m _ (Hg.out.below (BBW.out.trans (Below.mono (show Below wdd3.heap.size wdd3 _ by (repeat' (first | (with_reducible exact Below.refl _ _) | (with_reducible assumption) | (with_reducible refine Below.alloc ?_ ?_ _) | (with_reducible refine Below.setCell ?_ ?_ _) | (with_reducible refine Below.drew ?_) | (with_reducible refine Below.via (by assumption) ?_ ?_) | go_size))) BBW.out.size))) (Hh.out.below (BBW.out.trans (Below.mono (show Below wdd3.heap.size wdd3 _ by (repeat' (first | (with_reducible exact Below.refl _ _) | (with_reducible assumption) | (with_reducible refine Below.alloc ?_ ?_ _) | (with_reducible refine Below.setCell ?_ ?_ _) | (with_reducible refine Below.drew ?_) | (with_reducible refine Below.via (by assumption) ?_ ?_) | go_size))) BBW.out.size))) hm.out Og.out Oh.out (by omega)).mono ?_); rintro e wm ⟨vm, rfl, om, dm⟩; obtain ⟨pm, qm, rfl⟩ := om.rd.shape; have zm := dm.size; (try simp only [World.size_drew, World.size_alloc] at zm)))
            (try go_wp2_with fail)
            refine hK12.out _ _ ?_ (fun hHeld12 => ?_)
            · (((try dsimp only); (repeat' (refine And.intro ?_ ?_)); all_goals (first | assumption | (refine (Below.cell (B := wdd3.heap.size) (w := wdd3) ?_ ?_).trans ?_ <;> (first | assumption | omega | (simp only; omega) | (skip; (repeat' (first | (with_reducible exact Below.refl _ _) | (with_reducible assumption) | (with_reducible refine Below.alloc ?_ ?_ _) | (with_reducible refine Below.setCell ?_ ?_ _) | (with_reducible refine Below.drew ?_) | (with_reducible refine Below.via (by assumption) ?_ ?_) | go_size)); done))) | (go_keep; done))))
            clear hK12 K12
            (try simp only [List.getElem_toArray, List.getElem_cons_succ, List.getElem_cons_zero, Act.put, List.setIfInBounds_toArray, List.set_cons_zero, List.set_cons_succ])
            refine wpAnyH_ready (rs := [16]) (by kernel_rfl) (by simp) ?_
            refine AllReadyH.cons rfl (fun K16 hK16 => ?_) ?_
            · go_simp
              (go_at_call 83; ((with_reducible refine (over_impl _ p m _ (Hp.out.below (BBW.out.trans (Below.mono (show Below wdd3.heap.size wdd3 _ by (repeat' (first | (with_reducible exact Below.refl _ _) | (with_reducible assumption) | (with_reducible refine Below.alloc ?_ ?_ _) | (with_reducible refine Below.setCell ?_ ?_ _) | (with_reducible refine Below.drew ?_) | (with_reducible refine Below.via (by assumption) ?_ ?_) | go_size))) BBW.out.size))) (by omega) Hbd.out (by omega) (by omega)).mono ?_); rintro e wo ⟨vo, rfl, oo, do_⟩; obtain ⟨po, qo, rfl⟩ := oo.rd.shape; have zo := do_.size; (try simp only [World.size_drew, World.size_alloc] at zo)))
              (try go_wp2_with fail)
              refine hK16.out _ _ ?_ (fun hHeld16 => ?_)
              · (((try dsimp only); (repeat' (refine And.intro ?_ ?_)); all_goals (first | assumption | (refine (Below.cell (B := wdd3.heap.size) (w := wdd3) ?_ ?_).trans ?_ <;> (first | assumption | omega | (simp only; omega) | (skip; (repeat' (first | (with_reducible exact Below.refl _ _) | (with_reducible assumption) | (with_reducible refine Below.alloc ?_ ?_ _) | (with_reducible refine Below.setCell ?_ ?_ _) | (with_reducible refine Below.drew ?_) | (with_reducible refine Below.via (by assumption) ?_ ?_) | go_size)); done))) | (go_keep; done))))
              clear hK16 K16
              (try simp only [List.getElem_toArray, List.getElem_cons_succ, List.getElem_cons_zero, Act.put, List.setIfInBounds_toArray, List.set_cons_zero, List.set_cons_succ])
              refine wpAnyH_ready (rs := [17]) (by kernel_rfl) (by simp) ?_
              refine AllReadyH.cons rfl (fun K17 hK17 => ?_) ?_
              · go_simp
                (go_at_call 26; ((with_reducible refine (same_any _ _ (mulF m g h) (trimZ (modsZ m p)) _ (om.rd.below (by (repeat' (first | (with_reducible exact Below.refl _ _) | (with_reducible assumption) | (with_reducible refine Below.alloc ?_ ?_ _) | (with_reducible refine Below.setCell ?_ ?_ _) | (with_reducible refine Below.drew ?_) | (with_reducible refine Below.via (by assumption) ?_ ?_) | go_size)))) (oo.rd.below (by (repeat' (first | (with_reducible exact Below.refl _ _) | (with_reducible assumption) | (with_reducible refine Below.alloc ?_ ?_ _) | (with_reducible refine Below.setCell ?_ ?_ _) | (with_reducible refine Below.drew ?_) | (with_reducible refine Below.via (by assumption) ?_ ?_) | go_size)))) Hmul.out.ne Htl.out.1 (by have := Hmul.out.len; omega) (by have := Htl.out.2; omega)).mono ?_); rw [hmm]; rintro e wt ⟨rfl, dt⟩))
                (try go_wp2_with fail)
                refine hK17.out _ _ ?_ (fun hHeld17 => ?_)
                · (((try dsimp only); (repeat' (refine And.intro ?_ ?_)); all_goals (first | assumption | (refine (Below.cell (B := wdd3.heap.size) (w := wdd3) ?_ ?_).trans ?_ <;> (first | assumption | omega | (simp only; omega) | (skip; (repeat' (first | (with_reducible exact Below.refl _ _) | (with_reducible assumption) | (with_reducible refine Below.alloc ?_ ?_ _) | (with_reducible refine Below.setCell ?_ ?_ _) | (with_reducible refine Below.drew ?_) | (with_reducible refine Below.via (by assumption) ?_ ?_) | go_size)); done))) | (go_keep; done))))
                clear hK17 K17
                (try simp only [List.getElem_toArray, List.getElem_cons_succ, List.getElem_cons_zero, Act.put, List.setIfInBounds_toArray, List.set_cons_zero, List.set_cons_succ])
                refine wpAnyH_take (i := 18) (v := ?_) rfl (by kernel_rfl) (by kernel_rfl) (by kernel_rfl) (fun _ _ _ h => h) (Or.inl ⟨by rfl, ?_⟩) (by assumption) ?_
                rotate_left 1
                (intro w hSw; (try dsimp only at hSw); go_simp; (try with_reducible rfl))
                (try simp only [List.getElem_toArray, List.getElem_cons_succ, List.getElem_cons_zero, Act.put, List.setIfInBounds_toArray, List.set_cons_zero, List.set_cons_succ])
                refine wpAnyH_take (i := 19) (v := ?_) rfl (by kernel_rfl) (by kernel_rfl) (by kernel_rfl) (fun _ _ _ h => h) (Or.inl ⟨by rfl, ?_⟩) (by assumption) ?_
                rotate_left 1
                (intro w hSw; (try dsimp only at hSw); go_simp; (try with_reducible rfl))
                (try simp only [List.getElem_toArray, List.getElem_cons_succ, List.getElem_cons_zero, Act.put, List.setIfInBounds_toArray, List.set_cons_zero, List.set_cons_succ])
                refine wpAnyH_done (by kernel_rfl) ?_ _
                go_wp2_with fail
                go_meet
                exact ⟨rfl, by (repeat' (first | (with_reducible exact Below.refl _ _) | (with_reducible assumption) | (with_reducible refine Below.alloc ?_ ?_ _) | (with_reducible refine Below.setCell ?_ ?_ _) | (with_reducible refine Below.drew ?_) | (with_reducible refine Below.via (by assumption) ?_ ?_) | go_size))⟩
              exact AllReadyH.nil
            exact AllReadyH.nil
          exact AllReadyH.nil
        exact AllReadyH.nil
      exact AllReadyH.nil
    refine AllReadyH.cons rfl (fun K4 hK4 => ?_) ?_
    · go_simp
      (try go_wp2_with fail)
      refine hK4.out _ _ ?_ (fun hHeld4 => ?_)
      · (((try dsimp only); (repeat' (refine And.intro ?_ ?_)); all_goals (first | assumption | (refine (Below.cell (B := wdd3.heap.size) (w := wdd3) ?_ ?_).trans ?_ <;> (first | assumption | omega | (simp only; omega) | (skip; (repeat' (first | (with_reducible exact Below.refl _ _) | (with_reducible assumption) | (with_reducible refine Below.alloc ?_ ?_ _) | (with_reducible refine Below.setCell ?_ ?_ _) | (with_reducible refine Below.drew ?_) | (with_reducible refine Below.via (by assumption) ?_ ?_) | go_size)); done))) | (go_keep; done))))
      clear hK4 K4
      (try simp only [List.getElem_toArray, List.getElem_cons_succ, List.getElem_cons_zero, Act.put, List.setIfInBounds_toArray, List.set_cons_zero, List.set_cons_succ])
      refine wpAnyH_take (i := 5) (v := ?_) rfl (by kernel_rfl) (by kernel_rfl) (by kernel_rfl) (fun _ _ _ h => h) (Or.inl ⟨by rfl, ?_⟩) (by assumption) ?_
      rotate_left 1
      (intro w hSw; (try dsimp only at hSw); go_simp; (try with_reducible rfl))
      (try simp only [List.getElem_toArray, List.getElem_cons_succ, List.getElem_cons_zero, Act.put, List.setIfInBounds_toArray, List.set_cons_zero, List.set_cons_succ])
      refine wpAnyH_ready (rs := [3]) (by kernel_rfl) (by simp) ?_
      refine AllReadyH.cons rfl (fun K3 hK3 => ?_) ?_
      · go_simp
        (go_at_call 81; ((with_reducible refine (common_impl _ _ g h m _ (Hg.out.below (BBW.out.trans (Below.mono (show Below wdd3.heap.size wdd3 _ by (repeat' (first | (with_reducible exact Below.refl _ _) | (with_reducible assumption) | (with_reducible refine Below.alloc ?_ ?_ _) | (with_reducible refine Below.setCell ?_ ?_ _) | (with_reducible refine Below.drew ?_) | (with_reducible refine Below.via (by assumption) ?_ ?_) | go_size))) BBW.out.size))) (Hh.out.below (BBW.out.trans (Below.mono (show Below wdd3.heap.size wdd3 _ by (repeat' (first | (with_reducible exact Below.refl _ _) | (with_reducible assumption) | (with_reducible refine Below.alloc ?_ ?_ _) | (with_reducible refine Below.setCell ?_ ?_ _) | (with_reducible refine Below.drew ?_) | (with_reducible refine Below.via (by assumption) ?_ ?_) | go_size))) BBW.out.size))) hm.out Og.out Oh.out).mono ?_); rintro e wc ⟨vc, rfl, oc, dc⟩; obtain ⟨pc, qc, rfl⟩ := oc.rd.shape; have Bc := (show Below wdd3.heap.size wdd3 wc by (repeat' (first | (with_reducible exact Below.refl _ _) | (with_reducible assumption) | (with_reducible refine Below.alloc ?_ ?_ _) | (with_reducible refine Below.setCell ?_ ?_ _) | (with_reducible refine Below.drew ?_) | (with_reducible refine Below.via (by assumption) ?_ ?_) | go_size))); have zc := Bc.size; have zc2 := dc.size; (try simp only [World.size_drew, World.size_alloc] at zc2); obtain ⟨cc, fc⟩ := bcell dc; (try have lc1 : wdd3.heap.size < wc.heap.size := by omega)))
        (try go_wp2_with fail)
        refine hK3.out _ _ ?_ (fun hHeld3 => ?_)
        · (((try dsimp only); (repeat' (refine And.intro ?_ ?_)); all_goals (first | assumption | (refine (Below.cell (B := wdd3.heap.size) (w := wdd3) ?_ ?_).trans ?_ <;> (first | assumption | omega | (simp only; omega) | (skip; (repeat' (first | (with_reducible exact Below.refl _ _) | (with_reducible assumption) | (with_reducible refine Below.alloc ?_ ?_ _) | (with_reducible refine Below.setCell ?_ ?_ _) | (with_reducible refine Below.drew ?_) | (with_reducible refine Below.via (by assumption) ?_ ?_) | go_size)); done))) | (go_keep; done))))
        clear hK3 K3
        (try simp only [List.getElem_toArray, List.getElem_cons_succ, List.getElem_cons_zero, Act.put, List.setIfInBounds_toArray, List.set_cons_zero, List.set_cons_succ])
        refine wpAnyH_ready (rs := [6]) (by kernel_rfl) (by simp) ?_
        refine AllReadyH.cons rfl (fun K6 hK6 => ?_) ?_
        · go_simp
          (go_at_call 26; ((with_reducible refine (same_any _ _ (monicF m (gcdZ m g h)) [1] _ (oc.rd.below (by (repeat' (first | (with_reducible exact Below.refl _ _) | (with_reducible assumption) | (with_reducible refine Below.alloc ?_ ?_ _) | (with_reducible refine Below.setCell ?_ ?_ _) | (with_reducible refine Below.drew ?_) | (with_reducible refine Below.via (by assumption) ?_ ?_) | go_size)))) (RdI.one (by go_simp)) HCn.out.1 (by simp) (by have := HCn.out.2; omega) (by simp)).mono ?_); rintro e ws ⟨rfl, ds⟩; rw [HG.out]; have Bs := (show Below wdd3.heap.size wdd3 ws by (repeat' (first | (with_reducible exact Below.refl _ _) | (with_reducible assumption) | (with_reducible refine Below.alloc ?_ ?_ _) | (with_reducible refine Below.setCell ?_ ?_ _) | (with_reducible refine Below.drew ?_) | (with_reducible refine Below.via (by assumption) ?_ ?_) | go_size))); have zs := Bs.size))
          (try go_wp2_with fail)
          refine hK6.out _ _ ?_ (fun hHeld6 => ?_)
          · (((try dsimp only); (repeat' (refine And.intro ?_ ?_)); all_goals (first | assumption | (refine (Below.cell (B := wdd3.heap.size) (w := wdd3) ?_ ?_).trans ?_ <;> (first | assumption | omega | (simp only; omega) | (skip; (repeat' (first | (with_reducible exact Below.refl _ _) | (with_reducible assumption) | (with_reducible refine Below.alloc ?_ ?_ _) | (with_reducible refine Below.setCell ?_ ?_ _) | (with_reducible refine Below.drew ?_) | (with_reducible refine Below.via (by assumption) ?_ ?_) | go_size)); done))) | (go_keep; done))))
          clear hK6 K6
          (try simp only [List.getElem_toArray, List.getElem_cons_succ, List.getElem_cons_zero, Act.put, List.setIfInBounds_toArray, List.set_cons_zero, List.set_cons_succ])
          refine wpAnyH_take (i := 7) (v := ?_) rfl (by kernel_rfl) (by kernel_rfl) (by kernel_rfl) (fun _ _ _ h => h) (Or.inl ⟨by rfl, ?_⟩) (by assumption) ?_
          rotate_left 1
          (intro w hSw; (try dsimp only at hSw); go_simp; (try with_reducible rfl))
          (try simp only [List.getElem_toArray, List.getElem_cons_succ, List.getElem_cons_zero, Act.put, List.setIfInBounds_toArray, List.set_cons_zero, List.set_cons_succ])
          refine wpAnyH_take (i := 8) (v := ?_) rfl (by kernel_rfl) (by kernel_rfl) (by kernel_rfl) (fun _ _ _ h => h) (Or.inl ⟨by rfl, ?_⟩) (by assumption) ?_
          rotate_left 1
          (intro w hSw; (try dsimp only at hSw); go_simp; (try with_reducible rfl))
          (try simp only [List.getElem_toArray, List.getElem_cons_succ, List.getElem_cons_zero, Act.put, List.setIfInBounds_toArray, List.set_cons_zero, List.set_cons_succ])
          refine wpAnyH_take (i := 9) (v := ?_) rfl (by kernel_rfl) (by kernel_rfl) (by kernel_rfl) (fun _ _ _ h => h) (Or.inl ⟨by rfl, ?_⟩) (by assumption) ?_
          rotate_left 1
          (intro w hSw; (try dsimp only at hSw); go_simp; (try with_reducible rfl))
          (try simp only [List.getElem_toArray, List.getElem_cons_succ, List.getElem_cons_zero, Act.put, List.setIfInBounds_toArray, List.set_cons_zero, List.set_cons_succ])
          refine wpAnyH_take (i := 10) (v := ?_) rfl (by kernel_rfl) (by kernel_rfl) (by kernel_rfl) (fun _ _ _ h => h) (Or.inl ⟨by rfl, ?_⟩) (by assumption) ?_
          rotate_left 1
          (intro w hSw; (try dsimp only at hSw); go_simp; (try with_reducible rfl))
          (try simp only [List.getElem_toArray, List.getElem_cons_succ, List.getElem_cons_zero, Act.put, List.setIfInBounds_toArray, List.set_cons_zero, List.set_cons_succ])
          refine wpAnyH_take (i := 11) (v := ?_) rfl (by kernel_rfl) (by kernel_rfl) (by kernel_rfl) (fun _ _ _ h => h) (Or.inl ⟨by rfl, ?_⟩) (by assumption) ?_
          rotate_left 1
          (intro w hSw; (try dsimp only at hSw); go_simp; (try with_reducible rfl))
          (try simp only [List.getElem_toArray, List.getElem_cons_succ, List.getElem_cons_zero, Act.put, List.setIfInBounds_toArray, List.set_cons_zero, List.set_cons_succ])
          refine wpAnyH_take (i := 13) (v := ?_) rfl (by kernel_rfl) (by kernel_rfl) (by kernel_rfl) (fun _ _ _ h => h) (Or.inl ⟨by rfl, ?_⟩) (by assumption) ?_
          rotate_left 1
          (intro w hSw; (try dsimp only at hSw); go_simp; (try with_reducible rfl))
          (try simp only [List.getElem_toArray, List.getElem_cons_succ, List.getElem_cons_zero, Act.put, List.setIfInBounds_toArray, List.set_cons_zero, List.set_cons_succ])
          refine wpAnyH_take (i := 14) (v := ?_) rfl (by kernel_rfl) (by kernel_rfl) (by kernel_rfl) (fun _ _ _ h => h) (Or.inl ⟨by rfl, ?_⟩) (by assumption) ?_
          rotate_left 1
          (intro w hSw; (try dsimp only at hSw); go_simp; (try with_reducible rfl))
          (try simp only [List.getElem_toArray, List.getElem_cons_succ, List.getElem_cons_zero, Act.put, List.setIfInBounds_toArray, List.set_cons_zero, List.set_cons_succ])
          refine wpAnyH_take (i := 15) (v := ?_) rfl (by kernel_rfl) (by kernel_rfl) (by kernel_rfl) (fun _ _ _ h => h) (Or.inl ⟨by rfl, ?_⟩) (by assumption) ?_
          rotate_left 1
          (intro w hSw; (try dsimp only at hSw); go_simp; (try with_reducible rfl))
          (try simp only [List.getElem_toArray, List.getElem_cons_succ, List.getElem_cons_zero, Act.put, List.setIfInBounds_toArray, List.set_cons_zero, List.set_cons_succ])
          refine wpAnyH_ready (rs := [12]) (by kernel_rfl) (by simp) ?_
          refine AllReadyH.cons rfl (fun K12 hK12 => ?_) ?_
          · go_simp
            (go_at_call 82; ((with_reducible refine (mulOver_impl _ _ g h m _ (Hg.out.below (BBW.out.trans (Below.mono (show Below wdd3.heap.size wdd3 _ by (repeat' (first | (with_reducible exact Below.refl _ _) | (with_reducible assumption) | (with_reducible refine Below.alloc ?_ ?_ _) | (with_reducible refine Below.setCell ?_ ?_ _) | (with_reducible refine Below.drew ?_) | (with_reducible refine Below.via (by assumption) ?_ ?_) | go_size))) BBW.out.size))) (Hh.out.below (BBW.out.trans (Below.mono (show Below wdd3.heap.size wdd3 _ by (repeat' (first | (with_reducible exact Below.refl _ _) | (with_reducible assumption) | (with_reducible refine Below.alloc ?_ ?_ _) | (with_reducible refine Below.setCell ?_ ?_ _) | (with_reducible refine Below.drew ?_) | (with_reducible refine Below.via (by assumption) ?_ ?_) | go_size))) BBW.out.size))) hm.out Og.out Oh.out (by omega)).mono ?_); rintro e wm ⟨vm, rfl, om, dm⟩; obtain ⟨pm, qm, rfl⟩ := om.rd.shape; have zm := dm.size; (try simp only [World.size_drew, World.size_alloc] at zm)))
            (try go_wp2_with fail)
            refine hK12.out _ _ ?_ (fun hHeld12 => ?_)
            · (((try dsimp only); (repeat' (refine And.intro ?_ ?_)); all_goals (first | assumption | (refine (Below.cell (B := wdd3.heap.size) (w := wdd3) ?_ ?_).trans ?_ <;> (first | assumption | omega | (simp only; omega) | (skip; (repeat' (first | (with_reducible exact Below.refl _ _) | (with_reducible assumption) | (with_reducible refine Below.alloc ?_ ?_ _) | (with_reducible refine Below.setCell ?_ ?_ _) | (with_reducible refine Below.drew ?_) | (with_reducible refine Below.via (by assumption) ?_ ?_) | go_size)); done))) | (go_keep; done))))
            clear hK12 K12
            (try simp only [List.getElem_toArray, List.getElem_cons_succ, List.getElem_cons_zero, Act.put, List.setIfInBounds_toArray, List.set_cons_zero, List.set_cons_succ])
            refine wpAnyH_ready (rs := [16]) (by kernel_rfl) (by simp) ?_
            refine AllReadyH.cons rfl (fun K16 hK16 => ?_) ?_
            · go_simp
              (go_at_call 83; ((with_reducible refine (over_impl _ p m _ (Hp.out.below (BBW.out.trans (Below.mono (show Below wdd3.heap.size wdd3 _ by (repeat' (first | (with_reducible exact Below.refl _ _) | (with_reducible assumption) | (with_reducible refine Below.alloc ?_ ?_ _) | (with_reducible refine Below.setCell ?_ ?_ _) | (with_reducible refine Below.drew ?_) | (with_reducible refine Below.via (by assumption) ?_ ?_) | go_size))) BBW.out.size))) (by omega) Hbd.out (by omega) (by omega)).mono ?_); rintro e wo ⟨vo, rfl, oo, do_⟩; obtain ⟨po, qo, rfl⟩ := oo.rd.shape; have zo := do_.size; (try simp only [World.size_drew, World.size_alloc] at zo)))
              (try go_wp2_with fail)
              refine hK16.out _ _ ?_ (fun hHeld16 => ?_)
              · (((try dsimp only); (repeat' (refine And.intro ?_ ?_)); all_goals (first | assumption | (refine (Below.cell (B := wdd3.heap.size) (w := wdd3) ?_ ?_).trans ?_ <;> (first | assumption | omega | (simp only; omega) | (skip; (repeat' (first | (with_reducible exact Below.refl _ _) | (with_reducible assumption) | (with_reducible refine Below.alloc ?_ ?_ _) | (with_reducible refine Below.setCell ?_ ?_ _) | (with_reducible refine Below.drew ?_) | (with_reducible refine Below.via (by assumption) ?_ ?_) | go_size)); done))) | (go_keep; done))))
              clear hK16 K16
              (try simp only [List.getElem_toArray, List.getElem_cons_succ, List.getElem_cons_zero, Act.put, List.setIfInBounds_toArray, List.set_cons_zero, List.set_cons_succ])
              refine wpAnyH_ready (rs := [17]) (by kernel_rfl) (by simp) ?_
              refine AllReadyH.cons rfl (fun K17 hK17 => ?_) ?_
              · go_simp
                (go_at_call 26; ((with_reducible refine (same_any _ _ (mulF m g h) (trimZ (modsZ m p)) _ (om.rd.below (by (repeat' (first | (with_reducible exact Below.refl _ _) | (with_reducible assumption) | (with_reducible refine Below.alloc ?_ ?_ _) | (with_reducible refine Below.setCell ?_ ?_ _) | (with_reducible refine Below.drew ?_) | (with_reducible refine Below.via (by assumption) ?_ ?_) | go_size)))) (oo.rd.below (by (repeat' (first | (with_reducible exact Below.refl _ _) | (with_reducible assumption) | (with_reducible refine Below.alloc ?_ ?_ _) | (with_reducible refine Below.setCell ?_ ?_ _) | (with_reducible refine Below.drew ?_) | (with_reducible refine Below.via (by assumption) ?_ ?_) | go_size)))) Hmul.out.ne Htl.out.1 (by have := Hmul.out.len; omega) (by have := Htl.out.2; omega)).mono ?_); rw [hmm]; rintro e wt ⟨rfl, dt⟩))
                (try go_wp2_with fail)
                refine hK17.out _ _ ?_ (fun hHeld17 => ?_)
                · (((try dsimp only); (repeat' (refine And.intro ?_ ?_)); all_goals (first | assumption | (refine (Below.cell (B := wdd3.heap.size) (w := wdd3) ?_ ?_).trans ?_ <;> (first | assumption | omega | (simp only; omega) | (skip; (repeat' (first | (with_reducible exact Below.refl _ _) | (with_reducible assumption) | (with_reducible refine Below.alloc ?_ ?_ _) | (with_reducible refine Below.setCell ?_ ?_ _) | (with_reducible refine Below.drew ?_) | (with_reducible refine Below.via (by assumption) ?_ ?_) | go_size)); done))) | (go_keep; done))))
                clear hK17 K17
                (try simp only [List.getElem_toArray, List.getElem_cons_succ, List.getElem_cons_zero, Act.put, List.setIfInBounds_toArray, List.set_cons_zero, List.set_cons_succ])
                refine wpAnyH_take (i := 18) (v := ?_) rfl (by kernel_rfl) (by kernel_rfl) (by kernel_rfl) (fun _ _ _ h => h) (Or.inl ⟨by rfl, ?_⟩) (by assumption) ?_
                rotate_left 1
                (intro w hSw; (try dsimp only at hSw); go_simp; (try with_reducible rfl))
                (try simp only [List.getElem_toArray, List.getElem_cons_succ, List.getElem_cons_zero, Act.put, List.setIfInBounds_toArray, List.set_cons_zero, List.set_cons_succ])
                refine wpAnyH_take (i := 19) (v := ?_) rfl (by kernel_rfl) (by kernel_rfl) (by kernel_rfl) (fun _ _ _ h => h) (Or.inl ⟨by rfl, ?_⟩) (by assumption) ?_
                rotate_left 1
                (intro w hSw; (try dsimp only at hSw); go_simp; (try with_reducible rfl))
                (try simp only [List.getElem_toArray, List.getElem_cons_succ, List.getElem_cons_zero, Act.put, List.setIfInBounds_toArray, List.set_cons_zero, List.set_cons_succ])
                refine wpAnyH_done (by kernel_rfl) ?_ _
                go_wp2_with fail
                go_meet
                exact ⟨rfl, by (repeat' (first | (with_reducible exact Below.refl _ _) | (with_reducible assumption) | (with_reducible refine Below.alloc ?_ ?_ _) | (with_reducible refine Below.setCell ?_ ?_ _) | (with_reducible refine Below.drew ?_) | (with_reducible refine Below.via (by assumption) ?_ ?_) | go_size))⟩
              exact AllReadyH.nil
            exact AllReadyH.nil
          exact AllReadyH.nil
        exact AllReadyH.nil
      exact AllReadyH.nil
    exact AllReadyH.nil
  case rest =>
    obtain ⟨rfl, hbx⟩ := hcut
    rename World => wx
    replace HB := Lib.hid (HB.out.below hbx)
    clear x4 x5 x6 x7 x8 x9 l4 l5 l6 l7 l8 l9 y8 y9 hbx hok HG hgc HGC hmm Htl hq Fg Fh hd1 hd2 hd3 BBW HCn HW
    have HKf := Lib.hid (show LiftK w m p g h pp qp pg qg ph qh from ⟨Hp.out, Hg.out, Hh.out, C.out, Ho.out, hv, Fl.1, Fl.2⟩)
    (iterate 8 (try (first | (exact T HKf.out HB.out) | go_step)))

end Go.Proofs.Ytlnjkjogedbhfaa
