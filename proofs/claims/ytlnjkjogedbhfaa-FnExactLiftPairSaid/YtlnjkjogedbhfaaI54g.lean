/- LiftPair of the reference: its head. Conditions: lengths of at most 2^40. -/
import Derived.Test.YtlnjkjogedbhfaaI54a
namespace Go.Proofs.Ytlnjkjogedbhfaa
open Go Go.RowKit
set_option linter.unusedSimpArgs false
set_option linter.unusedVariables false

set_option maxRecDepth 100000 in
set_option maxHeartbeats 20000000 in
theorem LiftPair_spec_head (T : ST3) (vp vg vh : Value) (p g h : List Int) (m : Int) (w : World) (hp : RdI w vp p) (hg : RdI w vg g) (hh : RdI w vh h) (hlp : p.length ≤ 1099511627776) (hlg : g.length ≤ 1099511627776) (hlh : h.length ≤ 1099511627776) : Calls Try.prog 17 #[.agg #[vp], .agg #[vg], .agg #[vh], .int .i64 m] w (RW2B (liftR m p g h) w) := by
  have Hp := Lib.hid hp
  have Hg := Lib.hid hg
  have Hh := Lib.hid hh
  obtain ⟨pp, qp, rfl⟩ := hp.shape
  obtain ⟨pg, qg, rfl⟩ := hg.shape
  obtain ⟨ph, qh, rfl⟩ := hh.shape
  clear hp hg hh
  go_enter Try.func17, Try.ntmps17
  go_wp2_with fail
  generalize hW : World.alloc _ _ = W0
  have Hw := Lib.hid hW
  clear hW
  have x4 : W0.cell? ⟨w.heap.size, 0, none⟩ = some (.slice pp p.length qp) := by rw [← Hw.out]; go_simp
  have x5 : W0.cell? ⟨w.heap.size + 1, 0, none⟩ = some (.slice pg g.length qg) := by rw [← Hw.out]; go_simp
  have x6 : W0.cell? ⟨w.heap.size + 1 + 1, 0, none⟩ = some (.slice ph h.length qh) := by rw [← Hw.out]; go_simp
  have x8 : W0.cell? ⟨w.heap.size + 1 + 1 + 1, 0, none⟩ = some (.slice none 0 0) := by rw [← Hw.out]; go_simp
  have x9 : W0.cell? ⟨w.heap.size + 1 + 1 + 1 + 1, 0, none⟩ = some (.slice none 0 0) := by rw [← Hw.out]; go_simp
  have y8 : W0.frozen? ⟨w.heap.size + 1 + 1 + 1, 0, none⟩ = false := by rw [← Hw.out]; go_simp
  have y9 : W0.frozen? ⟨w.heap.size + 1 + 1 + 1 + 1, 0, none⟩ = false := by rw [← Hw.out]; go_simp
  have HB := Lib.hid (show LBs w p g h pp qp pg qg ph qh W0 from ⟨x4, x5, x6, x8, y8, x9, y9, by rw [← Hw.out]; (repeat' (first | (with_reducible exact Below.refl _ _) | (with_reducible assumption) | (with_reducible refine Below.alloc ?_ ?_ _) | (with_reducible refine Below.setCell ?_ ?_ _) | (with_reducible refine Below.drew ?_) | (with_reducible refine Below.via (by assumption) ?_ ?_) | go_size))⟩)
  clear Hw
  have l4 := World.block_lt_of_cell? _ _ x4
  have l5 := World.block_lt_of_cell? _ _ x5
  have l6 := World.block_lt_of_cell? _ _ x6
  have l8 := World.block_lt_of_cell? _ _ x8
  have l9 := World.block_lt_of_cell? _ _ x9
  simp only at l4 l5 l6 l8 l9
  go_wp2_with fail
  (go_at_call 65; ((with_reducible refine (is_spec _ _ p _ x4 (Hp.out.below HB.out.bel) hlp).mono ?_); rintro e w' ⟨rfl, rfl⟩))
  cases hv : validB p
  case false =>
    have Ho := Lib.hid (show liftR m p g h = ([], [], false) by rw [liftR, if_neg (by simp [liftOk, hv])])
    go_wp2_with fail
    (try simp only [Exit.inBlock, Exit.then]); refine bodyPost_ret (by simp [results, Try.results17, go_sem, *]; try rfl) rfl ?_
    rw [Ho.out]
    exact ⟨_, _, rfl, OwI.nil _ _, OwI.nil _ _, by have h1 := HB.out.bel; have h2 := h1.size; (repeat' (first | (with_reducible exact Below.refl _ _) | (with_reducible assumption) | (with_reducible refine Below.alloc ?_ ?_ _) | (with_reducible refine Below.setCell ?_ ?_ _) | (with_reducible refine Below.drew ?_) | (with_reducible refine Below.via (by assumption) ?_ ?_) | go_size))⟩
  go_wp2_with fail
  (go_at_call 68; ((with_reducible refine (over_spec _ _ g m _ x5 (Hg.out.below HB.out.bel) hlg).mono ?_); rintro e w' ⟨rfl, rfl⟩))
  cases hq1 : overB m g
  case false =>
    have Ho := Lib.hid (show liftR m p g h = ([], [], false) by rw [liftR, if_neg (by simp [liftOk, hq1, hv])])
    go_wp2_with fail
    (try simp only [Exit.inBlock, Exit.then]); refine bodyPost_ret (by simp [results, Try.results17, go_sem, *]; try rfl) rfl ?_
    rw [Ho.out]
    exact ⟨_, _, rfl, OwI.nil _ _, OwI.nil _ _, by have h1 := HB.out.bel; have h2 := h1.size; (repeat' (first | (with_reducible exact Below.refl _ _) | (with_reducible assumption) | (with_reducible refine Below.alloc ?_ ?_ _) | (with_reducible refine Below.setCell ?_ ?_ _) | (with_reducible refine Below.drew ?_) | (with_reducible refine Below.via (by assumption) ?_ ?_) | go_size))⟩
  go_wp2_with fail
  (go_at_call 68; ((with_reducible refine (over_spec _ _ h m _ x6 (Hh.out.below HB.out.bel) hlh).mono ?_); rintro e w' ⟨rfl, rfl⟩))
  cases hq2 : overB m h
  case false =>
    have Ho := Lib.hid (show liftR m p g h = ([], [], false) by rw [liftR, if_neg (by simp [liftOk, hq2, hv, hq1])])
    go_wp2_with fail
    (try simp only [Exit.inBlock, Exit.then]); refine bodyPost_ret (by simp [results, Try.results17, go_sem, *]; try rfl) rfl ?_
    rw [Ho.out]
    exact ⟨_, _, rfl, OwI.nil _ _, OwI.nil _ _, by have h1 := HB.out.bel; have h2 := h1.size; (repeat' (first | (with_reducible exact Below.refl _ _) | (with_reducible assumption) | (with_reducible refine Below.alloc ?_ ?_ _) | (with_reducible refine Below.setCell ?_ ?_ _) | (with_reducible refine Below.drew ?_) | (with_reducible refine Below.via (by assumption) ?_ ?_) | go_size))⟩
  have hpn := Lib.hid (validB_ne hv).1
  have Fg := Lib.hid (overB_ovr hq1)
  have Fh := Lib.hid (overB_ovr hq2)
  have hm := Lib.hid Fg.out.1
  have hm2 := primeB_bd hm.out
  have hgn := Lib.hid Fg.out.2.1.ne
  have hhn := Lib.hid Fh.out.2.1.ne
  by_cases hd1 : (9 : Int) < (p.length : Int)
  case pos =>
    have Ho := Lib.hid (show liftR m p g h = ([], [], false) by rw [liftR, if_neg (by simp [liftOk, hv, hq1, hq2]; omega)])
    go_wp2_with fail
    (try simp only [Exit.inBlock, Exit.then]); refine bodyPost_ret (by simp [results, Try.results17, go_sem, *]; try rfl) rfl ?_
    rw [Ho.out]
    exact ⟨_, _, rfl, OwI.nil _ _, OwI.nil _ _, by have h1 := HB.out.bel; have h2 := h1.size; (repeat' (first | (with_reducible exact Below.refl _ _) | (with_reducible assumption) | (with_reducible refine Below.alloc ?_ ?_ _) | (with_reducible refine Below.setCell ?_ ?_ _) | (with_reducible refine Below.drew ?_) | (with_reducible refine Below.via (by assumption) ?_ ?_) | go_size))⟩
  by_cases hd2 : (g.length : Int) < 2
  case pos =>
    have Ho := Lib.hid (show liftR m p g h = ([], [], false) by rw [liftR, if_neg (by simp [liftOk, hv, hq1, hq2]; omega)])
    go_wp2_with fail
    (try simp only [Exit.inBlock, Exit.then]); refine bodyPost_ret (by simp [results, Try.results17, go_sem, *]; try rfl) rfl ?_
    rw [Ho.out]
    exact ⟨_, _, rfl, OwI.nil _ _, OwI.nil _ _, by have h1 := HB.out.bel; have h2 := h1.size; (repeat' (first | (with_reducible exact Below.refl _ _) | (with_reducible assumption) | (with_reducible refine Below.alloc ?_ ?_ _) | (with_reducible refine Below.setCell ?_ ?_ _) | (with_reducible refine Below.drew ?_) | (with_reducible refine Below.via (by assumption) ?_ ?_) | go_size))⟩
  by_cases hd3 : (h.length : Int) < 2
  case pos =>
    have Ho := Lib.hid (show liftR m p g h = ([], [], false) by rw [liftR, if_neg (by simp [liftOk, hv, hq1, hq2]; omega)])
    go_wp2_with fail
    (try simp only [Exit.inBlock, Exit.then]); refine bodyPost_ret (by simp [results, Try.results17, go_sem, *]; try rfl) rfl ?_
    rw [Ho.out]
    exact ⟨_, _, rfl, OwI.nil _ _, OwI.nil _ _, by have h1 := HB.out.bel; have h2 := h1.size; (repeat' (first | (with_reducible exact Below.refl _ _) | (with_reducible assumption) | (with_reducible refine Below.alloc ?_ ?_ _) | (with_reducible refine Below.setCell ?_ ?_ _) | (with_reducible refine Below.drew ?_) | (with_reducible refine Below.via (by assumption) ?_ ?_) | go_size))⟩
  go_wp2_with fail
  (go_at_call 69; ((with_reducible refine (one_spec _ p _ (Hp.out.below HB.out.bel) hpn.out hlp).mono ?_); rintro e w' ⟨rfl, rfl⟩))
  by_cases ht1 : lastZ p = 1
  case neg =>
    rw [decide_eq_false ht1]
    have Ho := Lib.hid (show liftR m p g h = ([], [], false) by rw [liftR, if_neg (by simp [liftOk, hv, hq1, hq2, ht1]; try omega)])
    go_wp2_with fail
    (try simp only [Exit.inBlock, Exit.then]); refine bodyPost_ret (by simp [results, Try.results17, go_sem, *]; try rfl) rfl ?_
    rw [Ho.out]
    exact ⟨_, _, rfl, OwI.nil _ _, OwI.nil _ _, by have h1 := HB.out.bel; have h2 := h1.size; (repeat' (first | (with_reducible exact Below.refl _ _) | (with_reducible assumption) | (with_reducible refine Below.alloc ?_ ?_ _) | (with_reducible refine Below.setCell ?_ ?_ _) | (with_reducible refine Below.drew ?_) | (with_reducible refine Below.via (by assumption) ?_ ?_) | go_size))⟩
  rw [decide_eq_true ht1]
  go_wp2_with fail
  (go_at_call 69; ((with_reducible refine (one_spec _ g _ (Hg.out.below HB.out.bel) hgn.out hlg).mono ?_); rintro e w' ⟨rfl, rfl⟩))
  by_cases ht2 : lastZ g = 1
  case neg =>
    rw [decide_eq_false ht2]
    have Ho := Lib.hid (show liftR m p g h = ([], [], false) by rw [liftR, if_neg (by simp [liftOk, hv, hq1, hq2, ht1, ht2]; try omega)])
    go_wp2_with fail
    (try simp only [Exit.inBlock, Exit.then]); refine bodyPost_ret (by simp [results, Try.results17, go_sem, *]; try rfl) rfl ?_
    rw [Ho.out]
    exact ⟨_, _, rfl, OwI.nil _ _, OwI.nil _ _, by have h1 := HB.out.bel; have h2 := h1.size; (repeat' (first | (with_reducible exact Below.refl _ _) | (with_reducible assumption) | (with_reducible refine Below.alloc ?_ ?_ _) | (with_reducible refine Below.setCell ?_ ?_ _) | (with_reducible refine Below.drew ?_) | (with_reducible refine Below.via (by assumption) ?_ ?_) | go_size))⟩
  rw [decide_eq_true ht2]
  go_wp2_with fail
  (go_at_call 69; ((with_reducible refine (one_spec _ h _ (Hh.out.below HB.out.bel) hhn.out hlh).mono ?_); rintro e w' ⟨rfl, rfl⟩))
  by_cases ht3 : lastZ h = 1
  case neg =>
    rw [decide_eq_false ht3]
    have Ho := Lib.hid (show liftR m p g h = ([], [], false) by rw [liftR, if_neg (by simp [liftOk, hv, hq1, hq2, ht1, ht2, ht3]; try omega)])
    go_wp2_with fail
    (try simp only [Exit.inBlock, Exit.then]); refine bodyPost_ret (by simp [results, Try.results17, go_sem, *]; try rfl) rfl ?_
    rw [Ho.out]
    exact ⟨_, _, rfl, OwI.nil _ _, OwI.nil _ _, by have h1 := HB.out.bel; have h2 := h1.size; (repeat' (first | (with_reducible exact Below.refl _ _) | (with_reducible assumption) | (with_reducible refine Below.alloc ?_ ?_ _) | (with_reducible refine Below.setCell ?_ ?_ _) | (with_reducible refine Below.drew ?_) | (with_reducible refine Below.via (by assumption) ?_ ?_) | go_size))⟩
  rw [decide_eq_true ht3]
  have Og := Lib.hid Fg.out.2.1
  have Oh := Lib.hid Fh.out.2.1
  have Fl : g.length ≤ 17 ∧ h.length ≤ 17 := ⟨Fg.out.2.2, Fh.out.2.2⟩
  have Hmul := Lib.hid (mulF_ovr (m := m) (by omega) Og.out Oh.out (by omega))
  have Hvp := Lib.hid (validB_iff.1 hv)
  have Hmods := Lib.hid (show modsZ m p ≠ [] ∧ (modsZ m p).length ≤ 17 by have h1 := Hvp.out.trd.1; have h2 := Hvp.out.len; exact ⟨List.ne_nil_of_length_pos (by rw [modsZ_length]; omega), by rw [modsZ_length]; omega⟩)
  have Htr := Lib.hid (trimS_eq Hmods.out.1)
  have Htl := Lib.hid (show trimZ (modsZ m p) ≠ [] ∧ (trimZ (modsZ m p)).length ≤ 17 from ⟨(trimZ_trd Hmods.out.1).ne, Nat.le_trans (trimZ_len_le _) Hmods.out.2⟩)
  have Hbd := Lib.hid (show BdI 1000000000000000 p from fun i => by have := Hvp.out.bd i; constructor <;> omega)
  have hlp2 := Hvp.out.len
  have BB0 := HB.out.bel
  go_upto_region 3 with fail
  cases hmm : (mulF m g h == trimZ (modsZ m p))
  case false =>
    go_cut [98] (fun v wx => v = .bool true ∧ Below W0.heap.size W0 wx)
    case first =>
      as_aux_lemma =>
      refine wp_region_held_drew (S := fun w' => w'.cell? ⟨w.heap.size, 0, none⟩ = some (.slice pp p.length qp) ∧ w'.cell? ⟨w.heap.size + 1, 0, none⟩ = some (.slice pg g.length qg) ∧ w'.cell? ⟨w.heap.size + 1 + 1, 0, none⟩ = some (.slice ph h.length qh)) (by kernel_rfl) (by (((try dsimp only); (repeat' (refine And.intro ?_ ?_)); all_goals (first | assumption | (refine (Below.cell (B := W0.heap.size) (w := W0) ?_ ?_).trans ?_ <;> (first | assumption | omega | (simp only; omega) | (skip; (repeat' (first | (with_reducible exact Below.refl _ _) | (with_reducible assumption) | (with_reducible refine Below.alloc ?_ ?_ _) | (with_reducible refine Below.setCell ?_ ?_ _) | (with_reducible refine Below.drew ?_) | (with_reducible refine Below.via (by assumption) ?_ ?_) | go_size)); done))) | (go_keep; done))))) (fun hHeld => ?_)
      refine wpAnyH_take (i := 0) (v := ?_) rfl (by kernel_rfl) (by kernel_rfl) (by kernel_rfl) (fun _ _ _ h => h) (Or.inl ⟨by rfl, ?_⟩) (by assumption) ?_
      rotate_left 1
      (intro w hSw; (try dsimp only at hSw); go_simp; (try with_reducible rfl))
      (try simp only [List.getElem_toArray, List.getElem_cons_succ, List.getElem_cons_zero, Act.put, List.setIfInBounds_toArray, List.set_cons_zero, List.set_cons_succ])
      refine wpAnyH_take (i := 1) (v := ?_) rfl (by kernel_rfl) (by kernel_rfl) (by kernel_rfl) (fun _ _ _ h => h) (Or.inl ⟨by rfl, ?_⟩) (by assumption) ?_
      rotate_left 1
      (intro w hSw; (try dsimp only at hSw); go_simp; (try with_reducible rfl))
      (try simp only [List.getElem_toArray, List.getElem_cons_succ, List.getElem_cons_zero, Act.put, List.setIfInBounds_toArray, List.set_cons_zero, List.set_cons_succ])
      refine wpAnyH_take (i := 2) (v := ?_) rfl (by kernel_rfl) (by kernel_rfl) (by kernel_rfl) (fun _ _ _ h => h) (Or.inl ⟨by rfl, ?_⟩) (by assumption) ?_
      rotate_left 1
      (intro w hSw; (try dsimp only at hSw); go_simp; (try with_reducible rfl))
      (try simp only [List.getElem_toArray, List.getElem_cons_succ, List.getElem_cons_zero, Act.put, List.setIfInBounds_toArray, List.set_cons_zero, List.set_cons_succ])
      refine wpAnyH_take (i := 3) (v := ?_) rfl (by kernel_rfl) (by kernel_rfl) (by kernel_rfl) (fun _ _ _ h => h) (Or.inl ⟨by rfl, ?_⟩) (by assumption) ?_
      rotate_left 1
      (intro w hSw; (try dsimp only at hSw); go_simp; (try with_reducible rfl))
      (try simp only [List.getElem_toArray, List.getElem_cons_succ, List.getElem_cons_zero, Act.put, List.setIfInBounds_toArray, List.set_cons_zero, List.set_cons_succ])
      refine wpAnyH_take (i := 5) (v := ?_) rfl (by kernel_rfl) (by kernel_rfl) (by kernel_rfl) (fun _ _ _ h => h) (Or.inl ⟨by rfl, ?_⟩) (by assumption) ?_
      rotate_left 1
      (intro w hSw; (try dsimp only at hSw); go_simp; (try with_reducible rfl))
      (try simp only [List.getElem_toArray, List.getElem_cons_succ, List.getElem_cons_zero, Act.put, List.setIfInBounds_toArray, List.set_cons_zero, List.set_cons_succ])
      refine wpAnyH_take (i := 7) (v := ?_) rfl (by kernel_rfl) (by kernel_rfl) (by kernel_rfl) (fun _ _ _ h => h) (Or.inl ⟨by rfl, ?_⟩) (by assumption) ?_
      rotate_left 1
      (intro w hSw; (try dsimp only at hSw); go_simp; (try with_reducible rfl))
      (try simp only [List.getElem_toArray, List.getElem_cons_succ, List.getElem_cons_zero, Act.put, List.setIfInBounds_toArray, List.set_cons_zero, List.set_cons_succ])
      refine wpAnyH_take (i := 8) (v := ?_) rfl (by kernel_rfl) (by kernel_rfl) (by kernel_rfl) (fun _ _ _ h => h) (Or.inl ⟨by rfl, ?_⟩) (by assumption) ?_
      rotate_left 1
      (intro w hSw; (try dsimp only at hSw); go_simp; (try with_reducible rfl))
      (try simp only [List.getElem_toArray, List.getElem_cons_succ, List.getElem_cons_zero, Act.put, List.setIfInBounds_toArray, List.set_cons_zero, List.set_cons_succ])
      refine wpAnyH_take (i := 9) (v := ?_) rfl (by kernel_rfl) (by kernel_rfl) (by kernel_rfl) (fun _ _ _ h => h) (Or.inl ⟨by rfl, ?_⟩) (by assumption) ?_
      rotate_left 1
      (intro w hSw; (try dsimp only at hSw); go_simp; (try with_reducible rfl))
      (try simp only [List.getElem_toArray, List.getElem_cons_succ, List.getElem_cons_zero, Act.put, List.setIfInBounds_toArray, List.set_cons_zero, List.set_cons_succ])
      refine wpAnyH_ready (rs := [4]) (by kernel_rfl) (by simp) ?_
      refine AllReadyH.cons rfl (fun K4 hK4 => ?_) ?_
      · go_simp
        (go_at_call 67; ((with_reducible refine (mul_spec2 _ _ g h m _ (Hg.out.below (BB0.trans (Below.mono (show Below W0.heap.size W0 _ by (repeat' (first | (with_reducible exact Below.refl _ _) | (with_reducible assumption) | (with_reducible refine Below.alloc ?_ ?_ _) | (with_reducible refine Below.setCell ?_ ?_ _) | (with_reducible refine Below.drew ?_) | (with_reducible refine Below.via (by assumption) ?_ ?_) | go_size))) BB0.size))) (Hh.out.below (BB0.trans (Below.mono (show Below W0.heap.size W0 _ by (repeat' (first | (with_reducible exact Below.refl _ _) | (with_reducible assumption) | (with_reducible refine Below.alloc ?_ ?_ _) | (with_reducible refine Below.setCell ?_ ?_ _) | (with_reducible refine Below.drew ?_) | (with_reducible refine Below.via (by assumption) ?_ ?_) | go_size))) BB0.size))) hm.out Og.out Oh.out).mono ?_); rintro e wa ⟨va, rfl, ra, da⟩; obtain ⟨pa, qa, rfl⟩ := ra.shape; have za := da.size; (try simp only [World.size_drew, World.size_alloc] at za)))
        (try go_wp2_with fail)
        refine hK4.out _ _ ?_ (fun hHeld4 => ?_)
        · (((try dsimp only); (repeat' (refine And.intro ?_ ?_)); all_goals (first | assumption | (refine (Below.cell (B := W0.heap.size) (w := W0) ?_ ?_).trans ?_ <;> (first | assumption | omega | (simp only; omega) | (skip; (repeat' (first | (with_reducible exact Below.refl _ _) | (with_reducible assumption) | (with_reducible refine Below.alloc ?_ ?_ _) | (with_reducible refine Below.setCell ?_ ?_ _) | (with_reducible refine Below.drew ?_) | (with_reducible refine Below.via (by assumption) ?_ ?_) | go_size)); done))) | (go_keep; done))))
        clear hK4 K4
        (try simp only [List.getElem_toArray, List.getElem_cons_succ, List.getElem_cons_zero, Act.put, List.setIfInBounds_toArray, List.set_cons_zero, List.set_cons_succ])
        refine wpAnyH_ready (rs := [6]) (by kernel_rfl) (by simp) ?_
        refine AllReadyH.cons rfl (fun K6 hK6 => ?_) ?_
        · go_simp
          (go_at_call 71; ((with_reducible refine (mods_mul_spec _ g h m _ (ra.below (by (repeat' (first | (with_reducible exact Below.refl _ _) | (with_reducible assumption) | (with_reducible refine Below.alloc ?_ ?_ _) | (with_reducible refine Below.setCell ?_ ?_ _) | (with_reducible refine Below.drew ?_) | (with_reducible refine Below.via (by assumption) ?_ ?_) | go_size)))) hm.out Og.out Oh.out (by omega)).mono ?_); rintro e wb ⟨vb, rfl, rb, db⟩; obtain ⟨pb, qb, rfl⟩ := rb.rd.shape; have zb := db.size; (try simp only [World.size_drew, World.size_alloc] at zb)))
          (try go_wp2_with fail)
          refine hK6.out _ _ ?_ (fun hHeld6 => ?_)
          · (((try dsimp only); (repeat' (refine And.intro ?_ ?_)); all_goals (first | assumption | (refine (Below.cell (B := W0.heap.size) (w := W0) ?_ ?_).trans ?_ <;> (first | assumption | omega | (simp only; omega) | (skip; (repeat' (first | (with_reducible exact Below.refl _ _) | (with_reducible assumption) | (with_reducible refine Below.alloc ?_ ?_ _) | (with_reducible refine Below.setCell ?_ ?_ _) | (with_reducible refine Below.drew ?_) | (with_reducible refine Below.via (by assumption) ?_ ?_) | go_size)); done))) | (go_keep; done))))
          clear hK6 K6
          (try simp only [List.getElem_toArray, List.getElem_cons_succ, List.getElem_cons_zero, Act.put, List.setIfInBounds_toArray, List.set_cons_zero, List.set_cons_succ])
          refine wpAnyH_ready (rs := [10]) (by kernel_rfl) (by simp) ?_
          refine AllReadyH.cons rfl (fun K10 hK10 => ?_) ?_
          · go_simp
            (go_at_call 71; ((with_reducible refine (mods_spec _ p m _ (Hp.out.below (BB0.trans (Below.mono (show Below W0.heap.size W0 _ by (repeat' (first | (with_reducible exact Below.refl _ _) | (with_reducible assumption) | (with_reducible refine Below.alloc ?_ ?_ _) | (with_reducible refine Below.setCell ?_ ?_ _) | (with_reducible refine Below.drew ?_) | (with_reducible refine Below.via (by assumption) ?_ ?_) | go_size))) BB0.size))) (by omega) Hbd.out (by omega) (by omega)).mono ?_); rw [Htr.out]; rintro e wc ⟨vc, rfl, rc, dc⟩; obtain ⟨pc, qc, rfl⟩ := rc.rd.shape; have zc := dc.size; (try simp only [World.size_drew, World.size_alloc] at zc)))
            (try go_wp2_with fail)
            refine hK10.out _ _ ?_ (fun hHeld10 => ?_)
            · (((try dsimp only); (repeat' (refine And.intro ?_ ?_)); all_goals (first | assumption | (refine (Below.cell (B := W0.heap.size) (w := W0) ?_ ?_).trans ?_ <;> (first | assumption | omega | (simp only; omega) | (skip; (repeat' (first | (with_reducible exact Below.refl _ _) | (with_reducible assumption) | (with_reducible refine Below.alloc ?_ ?_ _) | (with_reducible refine Below.setCell ?_ ?_ _) | (with_reducible refine Below.drew ?_) | (with_reducible refine Below.via (by assumption) ?_ ?_) | go_size)); done))) | (go_keep; done))))
            clear hK10 K10
            (try simp only [List.getElem_toArray, List.getElem_cons_succ, List.getElem_cons_zero, Act.put, List.setIfInBounds_toArray, List.set_cons_zero, List.set_cons_succ])
            refine wpAnyH_ready (rs := [11]) (by kernel_rfl) (by simp) ?_
            refine AllReadyH.cons rfl (fun K11 hK11 => ?_) ?_
            · go_simp
              (go_at_call 70; ((with_reducible refine (same_spec _ _ (mulF m g h) (trimZ (modsZ m p)) _ (rb.rd.below (by (repeat' (first | (with_reducible exact Below.refl _ _) | (with_reducible assumption) | (with_reducible refine Below.alloc ?_ ?_ _) | (with_reducible refine Below.setCell ?_ ?_ _) | (with_reducible refine Below.drew ?_) | (with_reducible refine Below.via (by assumption) ?_ ?_) | go_size)))) (rc.rd.below (by (repeat' (first | (with_reducible exact Below.refl _ _) | (with_reducible assumption) | (with_reducible refine Below.alloc ?_ ?_ _) | (with_reducible refine Below.setCell ?_ ?_ _) | (with_reducible refine Below.drew ?_) | (with_reducible refine Below.via (by assumption) ?_ ?_) | go_size)))) Hmul.out.ne Htl.out.1 (by have := Hmul.out.len; omega) (by have := Htl.out.2; omega)).mono ?_); rw [hmm]; rintro e ws ⟨ms, rfl, rfl⟩; have ds := drewN_below wc ms))
              (try go_wp2_with fail)
              refine hK11.out _ _ ?_ (fun hHeld11 => ?_)
              · (((try dsimp only); (repeat' (refine And.intro ?_ ?_)); all_goals (first | assumption | (refine (Below.cell (B := W0.heap.size) (w := W0) ?_ ?_).trans ?_ <;> (first | assumption | omega | (simp only; omega) | (skip; (repeat' (first | (with_reducible exact Below.refl _ _) | (with_reducible assumption) | (with_reducible refine Below.alloc ?_ ?_ _) | (with_reducible refine Below.setCell ?_ ?_ _) | (with_reducible refine Below.drew ?_) | (with_reducible refine Below.via (by assumption) ?_ ?_) | go_size)); done))) | (go_keep; done))))
              clear hK11 K11
              (try simp only [List.getElem_toArray, List.getElem_cons_succ, List.getElem_cons_zero, Act.put, List.setIfInBounds_toArray, List.set_cons_zero, List.set_cons_succ])
              refine wpAnyH_take (i := 12) (v := ?_) rfl (by kernel_rfl) (by kernel_rfl) (by kernel_rfl) (fun _ _ _ h => h) (Or.inl ⟨by rfl, ?_⟩) (by assumption) ?_
              rotate_left 1
              (intro w hSw; (try dsimp only at hSw); go_simp; (try with_reducible rfl))
              (try simp only [List.getElem_toArray, List.getElem_cons_succ, List.getElem_cons_zero, Act.put, List.setIfInBounds_toArray, List.set_cons_zero, List.set_cons_succ])
              refine wpAnyH_take (i := 13) (v := ?_) rfl (by kernel_rfl) (by kernel_rfl) (by kernel_rfl) (fun _ _ _ h => h) (Or.inl ⟨by rfl, ?_⟩) (by assumption) ?_
              rotate_left 1
              (intro w hSw; (try dsimp only at hSw); go_simp; (try with_reducible rfl))
              (try simp only [List.getElem_toArray, List.getElem_cons_succ, List.getElem_cons_zero, Act.put, List.setIfInBounds_toArray, List.set_cons_zero, List.set_cons_succ])
              refine wpAnyH_take (i := 14) rfl (by kernel_rfl) (by kernel_rfl) (by kernel_rfl) (fun _ _ _ h => h) (Or.inr ⟨by rfl, rfl⟩) (by assumption) ?_
              (try simp only [List.getElem_toArray, List.getElem_cons_succ, List.getElem_cons_zero, Act.put, List.setIfInBounds_toArray, List.set_cons_zero, List.set_cons_succ])
              refine wpAnyH_take (i := 15) rfl (by kernel_rfl) (by kernel_rfl) (by kernel_rfl) (fun _ _ _ h => h) (Or.inr ⟨by rfl, rfl⟩) (by assumption) ?_
              (try simp only [List.getElem_toArray, List.getElem_cons_succ, List.getElem_cons_zero, Act.put, List.setIfInBounds_toArray, List.set_cons_zero, List.set_cons_succ])
              refine wpAnyH_take (i := 16) rfl (by kernel_rfl) (by kernel_rfl) (by kernel_rfl) (fun _ _ _ h => h) (Or.inr ⟨by rfl, rfl⟩) (by assumption) ?_
              (try simp only [List.getElem_toArray, List.getElem_cons_succ, List.getElem_cons_zero, Act.put, List.setIfInBounds_toArray, List.set_cons_zero, List.set_cons_succ])
              refine wpAnyH_take (i := 17) rfl (by kernel_rfl) (by kernel_rfl) (by kernel_rfl) (fun _ _ _ h => h) (Or.inr ⟨by rfl, rfl⟩) (by assumption) ?_
              (try simp only [List.getElem_toArray, List.getElem_cons_succ, List.getElem_cons_zero, Act.put, List.setIfInBounds_toArray, List.set_cons_zero, List.set_cons_succ])
              refine wpAnyH_take (i := 18) rfl (by kernel_rfl) (by kernel_rfl) (by kernel_rfl) (fun _ _ _ h => h) (Or.inr ⟨by rfl, rfl⟩) (by assumption) ?_
              (try simp only [List.getElem_toArray, List.getElem_cons_succ, List.getElem_cons_zero, Act.put, List.setIfInBounds_toArray, List.set_cons_zero, List.set_cons_succ])
              refine wpAnyH_take (i := 19) rfl (by kernel_rfl) (by kernel_rfl) (by kernel_rfl) (fun _ _ _ h => h) (Or.inr ⟨by rfl, rfl⟩) (by assumption) ?_
              (try simp only [List.getElem_toArray, List.getElem_cons_succ, List.getElem_cons_zero, Act.put, List.setIfInBounds_toArray, List.set_cons_zero, List.set_cons_succ])
              refine wpAnyH_take (i := 20) rfl (by kernel_rfl) (by kernel_rfl) (by kernel_rfl) (fun _ _ _ h => h) (Or.inr ⟨by rfl, rfl⟩) (by assumption) ?_
              (try simp only [List.getElem_toArray, List.getElem_cons_succ, List.getElem_cons_zero, Act.put, List.setIfInBounds_toArray, List.set_cons_zero, List.set_cons_succ])
              refine wpAnyH_take (i := 21) rfl (by kernel_rfl) (by kernel_rfl) (by kernel_rfl) (fun _ _ _ h => h) (Or.inr ⟨by rfl, rfl⟩) (by assumption) ?_
              (try simp only [List.getElem_toArray, List.getElem_cons_succ, List.getElem_cons_zero, Act.put, List.setIfInBounds_toArray, List.set_cons_zero, List.set_cons_succ])
              refine wpAnyH_take (i := 22) (v := ?_) rfl (by kernel_rfl) (by kernel_rfl) (by kernel_rfl) (fun _ _ _ h => h) (Or.inl ⟨by rfl, ?_⟩) (by assumption) ?_
              rotate_left 1
              (intro w hSw; (try dsimp only at hSw); go_simp; (try with_reducible rfl))
              (try simp only [List.getElem_toArray, List.getElem_cons_succ, List.getElem_cons_zero, Act.put, List.setIfInBounds_toArray, List.set_cons_zero, List.set_cons_succ])
              refine wpAnyH_done (by kernel_rfl) ?_ _
              go_wp2_with fail
              go_meet
              exact ⟨rfl, by (repeat' (first | (with_reducible exact Below.refl _ _) | (with_reducible assumption) | (with_reducible refine Below.alloc ?_ ?_ _) | (with_reducible refine Below.setCell ?_ ?_ _) | (with_reducible refine Below.drew ?_) | (with_reducible refine Below.via (by assumption) ?_ ?_) | go_size))⟩
            exact AllReadyH.nil
          exact AllReadyH.nil
        exact AllReadyH.nil
      exact AllReadyH.nil
    case rest =>
      obtain ⟨rfl, hbx⟩ := hcut
      rename World => wx
      replace HB := Lib.hid (HB.out.below hbx)
      clear x4 x5 x6 x8 x9 y8 y9 l4 l5 l6 l8 l9 BB0
      have x4 := HB.out.c4
      have l4 := World.block_lt_of_cell? _ _ x4
      have x5 := HB.out.c5
      have l5 := World.block_lt_of_cell? _ _ x5
      have x6 := HB.out.c6
      have l6 := World.block_lt_of_cell? _ _ x6
      have x8 := HB.out.c8
      have l8 := World.block_lt_of_cell? _ _ x8
      have x9 := HB.out.c9
      have l9 := World.block_lt_of_cell? _ _ x9
      simp only at l4 l5 l6 l8 l9
      have y8 := HB.out.f8
      have y9 := HB.out.f9
      have Ho := Lib.hid (show liftR m p g h = ([], [], false) by rw [liftR, if_neg (by simp [liftOk, hv, hq1, hq2, ht1, ht2, ht3, hmm]; try omega)])
      go_wp2_with fail
      (try simp only [Exit.inBlock, Exit.then]); refine bodyPost_ret (by simp [results, Try.results17, go_sem, *]; try rfl) rfl ?_
      rw [Ho.out]
      exact ⟨_, _, rfl, OwI.nil _ _, OwI.nil _ _, by have h1 := HB.out.bel; have h2 := h1.size; (repeat' (first | (with_reducible exact Below.refl _ _) | (with_reducible assumption) | (with_reducible refine Below.alloc ?_ ?_ _) | (with_reducible refine Below.setCell ?_ ?_ _) | (with_reducible refine Below.drew ?_) | (with_reducible refine Below.via (by assumption) ?_ ?_) | go_size))⟩
  have hgl := Lib.hid (gcd_one_len (m := m) (g := g) (h := h))
  by_cases hgc : (gcdZ m g h).length = 1
  case neg =>
    have hgn1 : ¬ (monicS m (gcdZ m g h)).length = 1 := by rw [hgl.out]; exact hgc
    have hgn2 : ¬ ((monicS m (gcdZ m g h)).length : Int) = 1 := by omega
    go_cut [98] (fun v wx => v = .bool true ∧ Below W0.heap.size W0 wx)
    case first =>
      as_aux_lemma =>
      refine wp_region_held_drew (S := fun w' => w'.cell? ⟨w.heap.size, 0, none⟩ = some (.slice pp p.length qp) ∧ w'.cell? ⟨w.heap.size + 1, 0, none⟩ = some (.slice pg g.length qg) ∧ w'.cell? ⟨w.heap.size + 1 + 1, 0, none⟩ = some (.slice ph h.length qh)) (by kernel_rfl) (by (((try dsimp only); (repeat' (refine And.intro ?_ ?_)); all_goals (first | assumption | (refine (Below.cell (B := W0.heap.size) (w := W0) ?_ ?_).trans ?_ <;> (first | assumption | omega | (simp only; omega) | (skip; (repeat' (first | (with_reducible exact Below.refl _ _) | (with_reducible assumption) | (with_reducible refine Below.alloc ?_ ?_ _) | (with_reducible refine Below.setCell ?_ ?_ _) | (with_reducible refine Below.drew ?_) | (with_reducible refine Below.via (by assumption) ?_ ?_) | go_size)); done))) | (go_keep; done))))) (fun hHeld => ?_)
      refine wpAnyH_take (i := 0) (v := ?_) rfl (by kernel_rfl) (by kernel_rfl) (by kernel_rfl) (fun _ _ _ h => h) (Or.inl ⟨by rfl, ?_⟩) (by assumption) ?_
      rotate_left 1
      (intro w hSw; (try dsimp only at hSw); go_simp; (try with_reducible rfl))
      (try simp only [List.getElem_toArray, List.getElem_cons_succ, List.getElem_cons_zero, Act.put, List.setIfInBounds_toArray, List.set_cons_zero, List.set_cons_succ])
      refine wpAnyH_take (i := 1) (v := ?_) rfl (by kernel_rfl) (by kernel_rfl) (by kernel_rfl) (fun _ _ _ h => h) (Or.inl ⟨by rfl, ?_⟩) (by assumption) ?_
      rotate_left 1
      (intro w hSw; (try dsimp only at hSw); go_simp; (try with_reducible rfl))
      (try simp only [List.getElem_toArray, List.getElem_cons_succ, List.getElem_cons_zero, Act.put, List.setIfInBounds_toArray, List.set_cons_zero, List.set_cons_succ])
      refine wpAnyH_take (i := 2) (v := ?_) rfl (by kernel_rfl) (by kernel_rfl) (by kernel_rfl) (fun _ _ _ h => h) (Or.inl ⟨by rfl, ?_⟩) (by assumption) ?_
      rotate_left 1
      (intro w hSw; (try dsimp only at hSw); go_simp; (try with_reducible rfl))
      (try simp only [List.getElem_toArray, List.getElem_cons_succ, List.getElem_cons_zero, Act.put, List.setIfInBounds_toArray, List.set_cons_zero, List.set_cons_succ])
      refine wpAnyH_take (i := 3) (v := ?_) rfl (by kernel_rfl) (by kernel_rfl) (by kernel_rfl) (fun _ _ _ h => h) (Or.inl ⟨by rfl, ?_⟩) (by assumption) ?_
      rotate_left 1
      (intro w hSw; (try dsimp only at hSw); go_simp; (try with_reducible rfl))
      (try simp only [List.getElem_toArray, List.getElem_cons_succ, List.getElem_cons_zero, Act.put, List.setIfInBounds_toArray, List.set_cons_zero, List.set_cons_succ])
      refine wpAnyH_take (i := 5) (v := ?_) rfl (by kernel_rfl) (by kernel_rfl) (by kernel_rfl) (fun _ _ _ h => h) (Or.inl ⟨by rfl, ?_⟩) (by assumption) ?_
      rotate_left 1
      (intro w hSw; (try dsimp only at hSw); go_simp; (try with_reducible rfl))
      (try simp only [List.getElem_toArray, List.getElem_cons_succ, List.getElem_cons_zero, Act.put, List.setIfInBounds_toArray, List.set_cons_zero, List.set_cons_succ])
      refine wpAnyH_take (i := 7) (v := ?_) rfl (by kernel_rfl) (by kernel_rfl) (by kernel_rfl) (fun _ _ _ h => h) (Or.inl ⟨by rfl, ?_⟩) (by assumption) ?_
      rotate_left 1
      (intro w hSw; (try dsimp only at hSw); go_simp; (try with_reducible rfl))
      (try simp only [List.getElem_toArray, List.getElem_cons_succ, List.getElem_cons_zero, Act.put, List.setIfInBounds_toArray, List.set_cons_zero, List.set_cons_succ])
      refine wpAnyH_take (i := 8) (v := ?_) rfl (by kernel_rfl) (by kernel_rfl) (by kernel_rfl) (fun _ _ _ h => h) (Or.inl ⟨by rfl, ?_⟩) (by assumption) ?_
      rotate_left 1
      (intro w hSw; (try dsimp only at hSw); go_simp; (try with_reducible rfl))
      (try simp only [List.getElem_toArray, List.getElem_cons_succ, List.getElem_cons_zero, Act.put, List.setIfInBounds_toArray, List.set_cons_zero, List.set_cons_succ])
      refine wpAnyH_take (i := 9) (v := ?_) rfl (by kernel_rfl) (by kernel_rfl) (by kernel_rfl) (fun _ _ _ h => h) (Or.inl ⟨by rfl, ?_⟩) (by assumption) ?_
      rotate_left 1
      (intro w hSw; (try dsimp only at hSw); go_simp; (try with_reducible rfl))
      (try simp only [List.getElem_toArray, List.getElem_cons_succ, List.getElem_cons_zero, Act.put, List.setIfInBounds_toArray, List.set_cons_zero, List.set_cons_succ])
      refine wpAnyH_ready (rs := [4]) (by kernel_rfl) (by simp) ?_
      refine AllReadyH.cons rfl (fun K4 hK4 => ?_) ?_
      · go_simp
        (go_at_call 67; ((with_reducible refine (mul_spec2 _ _ g h m _ (Hg.out.below (BB0.trans (Below.mono (show Below W0.heap.size W0 _ by (repeat' (first | (with_reducible exact Below.refl _ _) | (with_reducible assumption) | (with_reducible refine Below.alloc ?_ ?_ _) | (with_reducible refine Below.setCell ?_ ?_ _) | (with_reducible refine Below.drew ?_) | (with_reducible refine Below.via (by assumption) ?_ ?_) | go_size))) BB0.size))) (Hh.out.below (BB0.trans (Below.mono (show Below W0.heap.size W0 _ by (repeat' (first | (with_reducible exact Below.refl _ _) | (with_reducible assumption) | (with_reducible refine Below.alloc ?_ ?_ _) | (with_reducible refine Below.setCell ?_ ?_ _) | (with_reducible refine Below.drew ?_) | (with_reducible refine Below.via (by assumption) ?_ ?_) | go_size))) BB0.size))) hm.out Og.out Oh.out).mono ?_); rintro e wa ⟨va, rfl, ra, da⟩; obtain ⟨pa, qa, rfl⟩ := ra.shape; have za := da.size; (try simp only [World.size_drew, World.size_alloc] at za)))
        (try go_wp2_with fail)
        refine hK4.out _ _ ?_ (fun hHeld4 => ?_)
        · (((try dsimp only); (repeat' (refine And.intro ?_ ?_)); all_goals (first | assumption | (refine (Below.cell (B := W0.heap.size) (w := W0) ?_ ?_).trans ?_ <;> (first | assumption | omega | (simp only; omega) | (skip; (repeat' (first | (with_reducible exact Below.refl _ _) | (with_reducible assumption) | (with_reducible refine Below.alloc ?_ ?_ _) | (with_reducible refine Below.setCell ?_ ?_ _) | (with_reducible refine Below.drew ?_) | (with_reducible refine Below.via (by assumption) ?_ ?_) | go_size)); done))) | (go_keep; done))))
        clear hK4 K4
        (try simp only [List.getElem_toArray, List.getElem_cons_succ, List.getElem_cons_zero, Act.put, List.setIfInBounds_toArray, List.set_cons_zero, List.set_cons_succ])
        refine wpAnyH_ready (rs := [6]) (by kernel_rfl) (by simp) ?_
        refine AllReadyH.cons rfl (fun K6 hK6 => ?_) ?_
        · go_simp
          (go_at_call 71; ((with_reducible refine (mods_mul_spec _ g h m _ (ra.below (by (repeat' (first | (with_reducible exact Below.refl _ _) | (with_reducible assumption) | (with_reducible refine Below.alloc ?_ ?_ _) | (with_reducible refine Below.setCell ?_ ?_ _) | (with_reducible refine Below.drew ?_) | (with_reducible refine Below.via (by assumption) ?_ ?_) | go_size)))) hm.out Og.out Oh.out (by omega)).mono ?_); rintro e wb ⟨vb, rfl, rb, db⟩; obtain ⟨pb, qb, rfl⟩ := rb.rd.shape; have zb := db.size; (try simp only [World.size_drew, World.size_alloc] at zb)))
          (try go_wp2_with fail)
          refine hK6.out _ _ ?_ (fun hHeld6 => ?_)
          · (((try dsimp only); (repeat' (refine And.intro ?_ ?_)); all_goals (first | assumption | (refine (Below.cell (B := W0.heap.size) (w := W0) ?_ ?_).trans ?_ <;> (first | assumption | omega | (simp only; omega) | (skip; (repeat' (first | (with_reducible exact Below.refl _ _) | (with_reducible assumption) | (with_reducible refine Below.alloc ?_ ?_ _) | (with_reducible refine Below.setCell ?_ ?_ _) | (with_reducible refine Below.drew ?_) | (with_reducible refine Below.via (by assumption) ?_ ?_) | go_size)); done))) | (go_keep; done))))
          clear hK6 K6
          (try simp only [List.getElem_toArray, List.getElem_cons_succ, List.getElem_cons_zero, Act.put, List.setIfInBounds_toArray, List.set_cons_zero, List.set_cons_succ])
          refine wpAnyH_ready (rs := [10]) (by kernel_rfl) (by simp) ?_
          refine AllReadyH.cons rfl (fun K10 hK10 => ?_) ?_
          · go_simp
            (go_at_call 71; ((with_reducible refine (mods_spec _ p m _ (Hp.out.below (BB0.trans (Below.mono (show Below W0.heap.size W0 _ by (repeat' (first | (with_reducible exact Below.refl _ _) | (with_reducible assumption) | (with_reducible refine Below.alloc ?_ ?_ _) | (with_reducible refine Below.setCell ?_ ?_ _) | (with_reducible refine Below.drew ?_) | (with_reducible refine Below.via (by assumption) ?_ ?_) | go_size))) BB0.size))) (by omega) Hbd.out (by omega) (by omega)).mono ?_); rw [Htr.out]; rintro e wc ⟨vc, rfl, rc, dc⟩; obtain ⟨pc, qc, rfl⟩ := rc.rd.shape; have zc := dc.size; (try simp only [World.size_drew, World.size_alloc] at zc)))
            (try go_wp2_with fail)
            refine hK10.out _ _ ?_ (fun hHeld10 => ?_)
            · (((try dsimp only); (repeat' (refine And.intro ?_ ?_)); all_goals (first | assumption | (refine (Below.cell (B := W0.heap.size) (w := W0) ?_ ?_).trans ?_ <;> (first | assumption | omega | (simp only; omega) | (skip; (repeat' (first | (with_reducible exact Below.refl _ _) | (with_reducible assumption) | (with_reducible refine Below.alloc ?_ ?_ _) | (with_reducible refine Below.setCell ?_ ?_ _) | (with_reducible refine Below.drew ?_) | (with_reducible refine Below.via (by assumption) ?_ ?_) | go_size)); done))) | (go_keep; done))))
            clear hK10 K10
            (try simp only [List.getElem_toArray, List.getElem_cons_succ, List.getElem_cons_zero, Act.put, List.setIfInBounds_toArray, List.set_cons_zero, List.set_cons_succ])
            refine wpAnyH_ready (rs := [11]) (by kernel_rfl) (by simp) ?_
            refine AllReadyH.cons rfl (fun K11 hK11 => ?_) ?_
            · go_simp
              (go_at_call 70; ((with_reducible refine (same_spec _ _ (mulF m g h) (trimZ (modsZ m p)) _ (rb.rd.below (by (repeat' (first | (with_reducible exact Below.refl _ _) | (with_reducible assumption) | (with_reducible refine Below.alloc ?_ ?_ _) | (with_reducible refine Below.setCell ?_ ?_ _) | (with_reducible refine Below.drew ?_) | (with_reducible refine Below.via (by assumption) ?_ ?_) | go_size)))) (rc.rd.below (by (repeat' (first | (with_reducible exact Below.refl _ _) | (with_reducible assumption) | (with_reducible refine Below.alloc ?_ ?_ _) | (with_reducible refine Below.setCell ?_ ?_ _) | (with_reducible refine Below.drew ?_) | (with_reducible refine Below.via (by assumption) ?_ ?_) | go_size)))) Hmul.out.ne Htl.out.1 (by have := Hmul.out.len; omega) (by have := Htl.out.2; omega)).mono ?_); rw [hmm]; rintro e ws ⟨ms, rfl, rfl⟩; have ds := drewN_below wc ms))
              (try go_wp2_with fail)
              refine hK11.out _ _ ?_ (fun hHeld11 => ?_)
              · (((try dsimp only); (repeat' (refine And.intro ?_ ?_)); all_goals (first | assumption | (refine (Below.cell (B := W0.heap.size) (w := W0) ?_ ?_).trans ?_ <;> (first | assumption | omega | (simp only; omega) | (skip; (repeat' (first | (with_reducible exact Below.refl _ _) | (with_reducible assumption) | (with_reducible refine Below.alloc ?_ ?_ _) | (with_reducible refine Below.setCell ?_ ?_ _) | (with_reducible refine Below.drew ?_) | (with_reducible refine Below.via (by assumption) ?_ ?_) | go_size)); done))) | (go_keep; done))))
              clear hK11 K11
              (try simp only [List.getElem_toArray, List.getElem_cons_succ, List.getElem_cons_zero, Act.put, List.setIfInBounds_toArray, List.set_cons_zero, List.set_cons_succ])
              refine wpAnyH_take (i := 12) (v := ?_) rfl (by kernel_rfl) (by kernel_rfl) (by kernel_rfl) (fun _ _ _ h => h) (Or.inl ⟨by rfl, ?_⟩) (by assumption) ?_
              rotate_left 1
              (intro w hSw; (try dsimp only at hSw); go_simp; (try with_reducible rfl))
              (try simp only [List.getElem_toArray, List.getElem_cons_succ, List.getElem_cons_zero, Act.put, List.setIfInBounds_toArray, List.set_cons_zero, List.set_cons_succ])
              refine wpAnyH_take (i := 13) (v := ?_) rfl (by kernel_rfl) (by kernel_rfl) (by kernel_rfl) (fun _ _ _ h => h) (Or.inl ⟨by rfl, ?_⟩) (by assumption) ?_
              rotate_left 1
              (intro w hSw; (try dsimp only at hSw); go_simp; (try with_reducible rfl))
              (try simp only [List.getElem_toArray, List.getElem_cons_succ, List.getElem_cons_zero, Act.put, List.setIfInBounds_toArray, List.set_cons_zero, List.set_cons_succ])
              refine wpAnyH_take (i := 14) (v := ?_) rfl (by kernel_rfl) (by kernel_rfl) (by kernel_rfl) (fun _ _ _ h => h) (Or.inl ⟨by rfl, ?_⟩) (by assumption) ?_
              rotate_left 1
              (intro w hSw; (try dsimp only at hSw); go_simp; (try with_reducible rfl))
              (try simp only [List.getElem_toArray, List.getElem_cons_succ, List.getElem_cons_zero, Act.put, List.setIfInBounds_toArray, List.set_cons_zero, List.set_cons_succ])
              refine wpAnyH_take (i := 15) (v := ?_) rfl (by kernel_rfl) (by kernel_rfl) (by kernel_rfl) (fun _ _ _ h => h) (Or.inl ⟨by rfl, ?_⟩) (by assumption) ?_
              rotate_left 1
              (intro w hSw; (try dsimp only at hSw); go_simp; (try with_reducible rfl))
              (try simp only [List.getElem_toArray, List.getElem_cons_succ, List.getElem_cons_zero, Act.put, List.setIfInBounds_toArray, List.set_cons_zero, List.set_cons_succ])
              refine wpAnyH_take (i := 16) (v := ?_) rfl (by kernel_rfl) (by kernel_rfl) (by kernel_rfl) (fun _ _ _ h => h) (Or.inl ⟨by rfl, ?_⟩) (by assumption) ?_
              rotate_left 1
              (intro w hSw; (try dsimp only at hSw); go_simp; (try with_reducible rfl))
              (try simp only [List.getElem_toArray, List.getElem_cons_succ, List.getElem_cons_zero, Act.put, List.setIfInBounds_toArray, List.set_cons_zero, List.set_cons_succ])
              refine wpAnyH_take (i := 17) (v := ?_) rfl (by kernel_rfl) (by kernel_rfl) (by kernel_rfl) (fun _ _ _ h => h) (Or.inl ⟨by rfl, ?_⟩) (by assumption) ?_
              rotate_left 1
              (intro w hSw; (try dsimp only at hSw); go_simp; (try with_reducible rfl))
              (try simp only [List.getElem_toArray, List.getElem_cons_succ, List.getElem_cons_zero, Act.put, List.setIfInBounds_toArray, List.set_cons_zero, List.set_cons_succ])
              refine wpAnyH_take (i := 18) (v := ?_) rfl (by kernel_rfl) (by kernel_rfl) (by kernel_rfl) (fun _ _ _ h => h) (Or.inl ⟨by rfl, ?_⟩) (by assumption) ?_
              rotate_left 1
              (intro w hSw; (try dsimp only at hSw); go_simp; (try with_reducible rfl))
              (try simp only [List.getElem_toArray, List.getElem_cons_succ, List.getElem_cons_zero, Act.put, List.setIfInBounds_toArray, List.set_cons_zero, List.set_cons_succ])
              refine wpAnyH_ready (rs := [19]) (by kernel_rfl) (by simp) ?_
              refine AllReadyH.cons rfl (fun K19 hK19 => ?_) ?_
              · go_simp
                (go_at_call 72; ((with_reducible refine (common_spec _ _ g h m _ (Hg.out.below (BB0.trans (Below.mono (show Below W0.heap.size W0 _ by (repeat' (first | (with_reducible exact Below.refl _ _) | (with_reducible assumption) | (with_reducible refine Below.alloc ?_ ?_ _) | (with_reducible refine Below.setCell ?_ ?_ _) | (with_reducible refine Below.drew ?_) | (with_reducible refine Below.via (by assumption) ?_ ?_) | go_size))) BB0.size))) (Hh.out.below (BB0.trans (Below.mono (show Below W0.heap.size W0 _ by (repeat' (first | (with_reducible exact Below.refl _ _) | (with_reducible assumption) | (with_reducible refine Below.alloc ?_ ?_ _) | (with_reducible refine Below.setCell ?_ ?_ _) | (with_reducible refine Below.drew ?_) | (with_reducible refine Below.via (by assumption) ?_ ?_) | go_size))) BB0.size))) hm.out Og.out Oh.out).mono ?_); rintro e wd ⟨vd, rfl, rd, dd⟩; obtain ⟨pd, qd, rfl⟩ := rd.shape; have zd := dd.size; (try simp only [World.size_drew, World.size_alloc] at zd)))
                (try go_wp2_with fail)
                refine hK19.out _ _ ?_ (fun hHeld19 => ?_)
                · (((try dsimp only); (repeat' (refine And.intro ?_ ?_)); all_goals (first | assumption | (refine (Below.cell (B := W0.heap.size) (w := W0) ?_ ?_).trans ?_ <;> (first | assumption | omega | (simp only; omega) | (skip; (repeat' (first | (with_reducible exact Below.refl _ _) | (with_reducible assumption) | (with_reducible refine Below.alloc ?_ ?_ _) | (with_reducible refine Below.setCell ?_ ?_ _) | (with_reducible refine Below.drew ?_) | (with_reducible refine Below.via (by assumption) ?_ ?_) | go_size)); done))) | (go_keep; done))))
                clear hK19 K19
                (try simp only [List.getElem_toArray, List.getElem_cons_succ, List.getElem_cons_zero, Act.put, List.setIfInBounds_toArray, List.set_cons_zero, List.set_cons_succ])
                refine wpAnyH_take (i := 20) (v := ?_) rfl (by kernel_rfl) (by kernel_rfl) (by kernel_rfl) (fun _ _ _ h => h) (Or.inl ⟨by rfl, ?_⟩) (by assumption) ?_
                rotate_left 1
                (intro w hSw; (try dsimp only at hSw); go_simp; (try with_reducible rfl))
                (try simp only [List.getElem_toArray, List.getElem_cons_succ, List.getElem_cons_zero, Act.put, List.setIfInBounds_toArray, List.set_cons_zero, List.set_cons_succ])
                refine wpAnyH_take (i := 21) (v := ?_) rfl (by kernel_rfl) (by kernel_rfl) (by kernel_rfl) (fun _ _ _ h => h) (Or.inl ⟨by rfl, ?_⟩) (by assumption) ?_
                rotate_left 1
                (intro w hSw; (try dsimp only at hSw); go_simp; (try with_reducible rfl))
                (try simp only [List.getElem_toArray, List.getElem_cons_succ, List.getElem_cons_zero, Act.put, List.setIfInBounds_toArray, List.set_cons_zero, List.set_cons_succ])
                refine wpAnyH_take (i := 22) (v := ?_) rfl (by kernel_rfl) (by kernel_rfl) (by kernel_rfl) (fun _ _ _ h => h) (Or.inl ⟨by rfl, ?_⟩) (by assumption) ?_
                rotate_left 1
                (intro w hSw; (try dsimp only at hSw); go_simp; (try with_reducible rfl))
                (try simp only [List.getElem_toArray, List.getElem_cons_succ, List.getElem_cons_zero, Act.put, List.setIfInBounds_toArray, List.set_cons_zero, List.set_cons_succ])
                refine wpAnyH_done (by kernel_rfl) ?_ _
                go_wp2_with fail
                go_meet
                refine ⟨?_, by (repeat' (first | (with_reducible exact Below.refl _ _) | (with_reducible assumption) | (with_reducible refine Below.alloc ?_ ?_ _) | (with_reducible refine Below.setCell ?_ ?_ _) | (with_reducible refine Below.drew ?_) | (with_reducible refine Below.via (by assumption) ?_ ?_) | go_size))⟩
                first | rfl | simp [hgn1, hgn2]
              exact AllReadyH.nil
            exact AllReadyH.nil
          exact AllReadyH.nil
        exact AllReadyH.nil
      exact AllReadyH.nil
    case rest =>
      obtain ⟨rfl, hbx⟩ := hcut
      rename World => wx
      replace HB := Lib.hid (HB.out.below hbx)
      clear x4 x5 x6 x8 x9 y8 y9 l4 l5 l6 l8 l9 BB0
      have x4 := HB.out.c4
      have l4 := World.block_lt_of_cell? _ _ x4
      have x5 := HB.out.c5
      have l5 := World.block_lt_of_cell? _ _ x5
      have x6 := HB.out.c6
      have l6 := World.block_lt_of_cell? _ _ x6
      have x8 := HB.out.c8
      have l8 := World.block_lt_of_cell? _ _ x8
      have x9 := HB.out.c9
      have l9 := World.block_lt_of_cell? _ _ x9
      simp only at l4 l5 l6 l8 l9
      have y8 := HB.out.f8
      have y9 := HB.out.f9
      have Ho := Lib.hid (show liftR m p g h = ([], [], false) by rw [liftR, if_neg (by simp [liftOk, hv, hq1, hq2, ht1, ht2, ht3, hgc]; try omega)])
      go_wp2_with fail
      (try simp only [Exit.inBlock, Exit.then]); refine bodyPost_ret (by simp [results, Try.results17, go_sem, *]; try rfl) rfl ?_
      rw [Ho.out]
      exact ⟨_, _, rfl, OwI.nil _ _, OwI.nil _ _, by have h1 := HB.out.bel; have h2 := h1.size; (repeat' (first | (with_reducible exact Below.refl _ _) | (with_reducible assumption) | (with_reducible refine Below.alloc ?_ ?_ _) | (with_reducible refine Below.setCell ?_ ?_ _) | (with_reducible refine Below.drew ?_) | (with_reducible refine Below.via (by assumption) ?_ ?_) | go_size))⟩
  have hgn1 : (monicS m (gcdZ m g h)).length = 1 := by rw [hgl.out]; exact hgc
  have hgn2 : ((monicS m (gcdZ m g h)).length : Int) = 1 := by omega
  have hok : liftOk m p g h = true := by simp [liftOk, hv, hq1, hq2, ht1, ht2, ht3, hmm, hgc]; omega
  have Ho := Lib.hid (show liftR m p g h = (liftZ m g (upU m p g h), liftZ m h (upV m p g h), true) by rw [liftR, if_pos hok])
  have C := Lib.hid (liftOk_c hok).1
  go_cut [98] (fun v wx => v = .bool false ∧ Below W0.heap.size W0 wx)
  case first =>
    as_aux_lemma =>
    refine wp_region_held_drew (S := fun w' => w'.cell? ⟨w.heap.size, 0, none⟩ = some (.slice pp p.length qp) ∧ w'.cell? ⟨w.heap.size + 1, 0, none⟩ = some (.slice pg g.length qg) ∧ w'.cell? ⟨w.heap.size + 1 + 1, 0, none⟩ = some (.slice ph h.length qh)) (by kernel_rfl) (by (((try dsimp only); (repeat' (refine And.intro ?_ ?_)); all_goals (first | assumption | (refine (Below.cell (B := W0.heap.size) (w := W0) ?_ ?_).trans ?_ <;> (first | assumption | omega | (simp only; omega) | (skip; (repeat' (first | (with_reducible exact Below.refl _ _) | (with_reducible assumption) | (with_reducible refine Below.alloc ?_ ?_ _) | (with_reducible refine Below.setCell ?_ ?_ _) | (with_reducible refine Below.drew ?_) | (with_reducible refine Below.via (by assumption) ?_ ?_) | go_size)); done))) | (go_keep; done))))) (fun hHeld => ?_)
    refine wpAnyH_take (i := 0) (v := ?_) rfl (by kernel_rfl) (by kernel_rfl) (by kernel_rfl) (fun _ _ _ h => h) (Or.inl ⟨by rfl, ?_⟩) (by assumption) ?_
    rotate_left 1
    (intro w hSw; (try dsimp only at hSw); go_simp; (try with_reducible rfl))
    (try simp only [List.getElem_toArray, List.getElem_cons_succ, List.getElem_cons_zero, Act.put, List.setIfInBounds_toArray, List.set_cons_zero, List.set_cons_succ])
    refine wpAnyH_take (i := 1) (v := ?_) rfl (by kernel_rfl) (by kernel_rfl) (by kernel_rfl) (fun _ _ _ h => h) (Or.inl ⟨by rfl, ?_⟩) (by assumption) ?_
    rotate_left 1
    (intro w hSw; (try dsimp only at hSw); go_simp; (try with_reducible rfl))
    (try simp only [List.getElem_toArray, List.getElem_cons_succ, List.getElem_cons_zero, Act.put, List.setIfInBounds_toArray, List.set_cons_zero, List.set_cons_succ])
    refine wpAnyH_take (i := 2) (v := ?_) rfl (by kernel_rfl) (by kernel_rfl) (by kernel_rfl) (fun _ _ _ h => h) (Or.inl ⟨by rfl, ?_⟩) (by assumption) ?_
    rotate_left 1
    (intro w hSw; (try dsimp only at hSw); go_simp; (try with_reducible rfl))
    (try simp only [List.getElem_toArray, List.getElem_cons_succ, List.getElem_cons_zero, Act.put, List.setIfInBounds_toArray, List.set_cons_zero, List.set_cons_succ])
    refine wpAnyH_take (i := 3) (v := ?_) rfl (by kernel_rfl) (by kernel_rfl) (by kernel_rfl) (fun _ _ _ h => h) (Or.inl ⟨by rfl, ?_⟩) (by assumption) ?_
    rotate_left 1
    (intro w hSw; (try dsimp only at hSw); go_simp; (try with_reducible rfl))
    (try simp only [List.getElem_toArray, List.getElem_cons_succ, List.getElem_cons_zero, Act.put, List.setIfInBounds_toArray, List.set_cons_zero, List.set_cons_succ])
    refine wpAnyH_take (i := 5) (v := ?_) rfl (by kernel_rfl) (by kernel_rfl) (by kernel_rfl) (fun _ _ _ h => h) (Or.inl ⟨by rfl, ?_⟩) (by assumption) ?_
    rotate_left 1
    (intro w hSw; (try dsimp only at hSw); go_simp; (try with_reducible rfl))
    (try simp only [List.getElem_toArray, List.getElem_cons_succ, List.getElem_cons_zero, Act.put, List.setIfInBounds_toArray, List.set_cons_zero, List.set_cons_succ])
    refine wpAnyH_take (i := 7) (v := ?_) rfl (by kernel_rfl) (by kernel_rfl) (by kernel_rfl) (fun _ _ _ h => h) (Or.inl ⟨by rfl, ?_⟩) (by assumption) ?_
    rotate_left 1
    (intro w hSw; (try dsimp only at hSw); go_simp; (try with_reducible rfl))
    (try simp only [List.getElem_toArray, List.getElem_cons_succ, List.getElem_cons_zero, Act.put, List.setIfInBounds_toArray, List.set_cons_zero, List.set_cons_succ])
    refine wpAnyH_take (i := 8) (v := ?_) rfl (by kernel_rfl) (by kernel_rfl) (by kernel_rfl) (fun _ _ _ h => h) (Or.inl ⟨by rfl, ?_⟩) (by assumption) ?_
    rotate_left 1
    (intro w hSw; (try dsimp only at hSw); go_simp; (try with_reducible rfl))
    (try simp only [List.getElem_toArray, List.getElem_cons_succ, List.getElem_cons_zero, Act.put, List.setIfInBounds_toArray, List.set_cons_zero, List.set_cons_succ])
    refine wpAnyH_take (i := 9) (v := ?_) rfl (by kernel_rfl) (by kernel_rfl) (by kernel_rfl) (fun _ _ _ h => h) (Or.inl ⟨by rfl, ?_⟩) (by assumption) ?_
    rotate_left 1
    (intro w hSw; (try dsimp only at hSw); go_simp; (try with_reducible rfl))
    (try simp only [List.getElem_toArray, List.getElem_cons_succ, List.getElem_cons_zero, Act.put, List.setIfInBounds_toArray, List.set_cons_zero, List.set_cons_succ])
    refine wpAnyH_ready (rs := [4]) (by kernel_rfl) (by simp) ?_
    refine AllReadyH.cons rfl (fun K4 hK4 => ?_) ?_
    · go_simp
      (go_at_call 67; ((with_reducible refine (mul_spec2 _ _ g h m _ (Hg.out.below (BB0.trans (Below.mono (show Below W0.heap.size W0 _ by (repeat' (first | (with_reducible exact Below.refl _ _) | (with_reducible assumption) | (with_reducible refine Below.alloc ?_ ?_ _) | (with_reducible refine Below.setCell ?_ ?_ _) | (with_reducible refine Below.drew ?_) | (with_reducible refine Below.via (by assumption) ?_ ?_) | go_size))) BB0.size))) (Hh.out.below (BB0.trans (Below.mono (show Below W0.heap.size W0 _ by (repeat' (first | (with_reducible exact Below.refl _ _) | (with_reducible assumption) | (with_reducible refine Below.alloc ?_ ?_ _) | (with_reducible refine Below.setCell ?_ ?_ _) | (with_reducible refine Below.drew ?_) | (with_reducible refine Below.via (by assumption) ?_ ?_) | go_size))) BB0.size))) hm.out Og.out Oh.out).mono ?_); rintro e wa ⟨va, rfl, ra, da⟩; obtain ⟨pa, qa, rfl⟩ := ra.shape; have za := da.size; (try simp only [World.size_drew, World.size_alloc] at za)))
      (try go_wp2_with fail)
      refine hK4.out _ _ ?_ (fun hHeld4 => ?_)
      · (((try dsimp only); (repeat' (refine And.intro ?_ ?_)); all_goals (first | assumption | (refine (Below.cell (B := W0.heap.size) (w := W0) ?_ ?_).trans ?_ <;> (first | assumption | omega | (simp only; omega) | (skip; (repeat' (first | (with_reducible exact Below.refl _ _) | (with_reducible assumption) | (with_reducible refine Below.alloc ?_ ?_ _) | (with_reducible refine Below.setCell ?_ ?_ _) | (with_reducible refine Below.drew ?_) | (with_reducible refine Below.via (by assumption) ?_ ?_) | go_size)); done))) | (go_keep; done))))
      clear hK4 K4
      (try simp only [List.getElem_toArray, List.getElem_cons_succ, List.getElem_cons_zero, Act.put, List.setIfInBounds_toArray, List.set_cons_zero, List.set_cons_succ])
      refine wpAnyH_ready (rs := [6]) (by kernel_rfl) (by simp) ?_
      refine AllReadyH.cons rfl (fun K6 hK6 => ?_) ?_
      · go_simp
        (go_at_call 71; ((with_reducible refine (mods_mul_spec _ g h m _ (ra.below (by (repeat' (first | (with_reducible exact Below.refl _ _) | (with_reducible assumption) | (with_reducible refine Below.alloc ?_ ?_ _) | (with_reducible refine Below.setCell ?_ ?_ _) | (with_reducible refine Below.drew ?_) | (with_reducible refine Below.via (by assumption) ?_ ?_) | go_size)))) hm.out Og.out Oh.out (by omega)).mono ?_); rintro e wb ⟨vb, rfl, rb, db⟩; obtain ⟨pb, qb, rfl⟩ := rb.rd.shape; have zb := db.size; (try simp only [World.size_drew, World.size_alloc] at zb)))
        (try go_wp2_with fail)
        refine hK6.out _ _ ?_ (fun hHeld6 => ?_)
        · (((try dsimp only); (repeat' (refine And.intro ?_ ?_)); all_goals (first | assumption | (refine (Below.cell (B := W0.heap.size) (w := W0) ?_ ?_).trans ?_ <;> (first | assumption | omega | (simp only; omega) | (skip; (repeat' (first | (with_reducible exact Below.refl _ _) | (with_reducible assumption) | (with_reducible refine Below.alloc ?_ ?_ _) | (with_reducible refine Below.setCell ?_ ?_ _) | (with_reducible refine Below.drew ?_) | (with_reducible refine Below.via (by assumption) ?_ ?_) | go_size)); done))) | (go_keep; done))))
        clear hK6 K6
        (try simp only [List.getElem_toArray, List.getElem_cons_succ, List.getElem_cons_zero, Act.put, List.setIfInBounds_toArray, List.set_cons_zero, List.set_cons_succ])
        refine wpAnyH_ready (rs := [10]) (by kernel_rfl) (by simp) ?_
        refine AllReadyH.cons rfl (fun K10 hK10 => ?_) ?_
        · go_simp
          (go_at_call 71; ((with_reducible refine (mods_spec _ p m _ (Hp.out.below (BB0.trans (Below.mono (show Below W0.heap.size W0 _ by (repeat' (first | (with_reducible exact Below.refl _ _) | (with_reducible assumption) | (with_reducible refine Below.alloc ?_ ?_ _) | (with_reducible refine Below.setCell ?_ ?_ _) | (with_reducible refine Below.drew ?_) | (with_reducible refine Below.via (by assumption) ?_ ?_) | go_size))) BB0.size))) (by omega) Hbd.out (by omega) (by omega)).mono ?_); rw [Htr.out]; rintro e wc ⟨vc, rfl, rc, dc⟩; obtain ⟨pc, qc, rfl⟩ := rc.rd.shape; have zc := dc.size; (try simp only [World.size_drew, World.size_alloc] at zc)))
          (try go_wp2_with fail)
          refine hK10.out _ _ ?_ (fun hHeld10 => ?_)
          · (((try dsimp only); (repeat' (refine And.intro ?_ ?_)); all_goals (first | assumption | (refine (Below.cell (B := W0.heap.size) (w := W0) ?_ ?_).trans ?_ <;> (first | assumption | omega | (simp only; omega) | (skip; (repeat' (first | (with_reducible exact Below.refl _ _) | (with_reducible assumption) | (with_reducible refine Below.alloc ?_ ?_ _) | (with_reducible refine Below.setCell ?_ ?_ _) | (with_reducible refine Below.drew ?_) | (with_reducible refine Below.via (by assumption) ?_ ?_) | go_size)); done))) | (go_keep; done))))
          clear hK10 K10
          (try simp only [List.getElem_toArray, List.getElem_cons_succ, List.getElem_cons_zero, Act.put, List.setIfInBounds_toArray, List.set_cons_zero, List.set_cons_succ])
          refine wpAnyH_ready (rs := [11]) (by kernel_rfl) (by simp) ?_
          refine AllReadyH.cons rfl (fun K11 hK11 => ?_) ?_
          · go_simp
            (go_at_call 70; ((with_reducible refine (same_spec _ _ (mulF m g h) (trimZ (modsZ m p)) _ (rb.rd.below (by (repeat' (first | (with_reducible exact Below.refl _ _) | (with_reducible assumption) | (with_reducible refine Below.alloc ?_ ?_ _) | (with_reducible refine Below.setCell ?_ ?_ _) | (with_reducible refine Below.drew ?_) | (with_reducible refine Below.via (by assumption) ?_ ?_) | go_size)))) (rc.rd.below (by (repeat' (first | (with_reducible exact Below.refl _ _) | (with_reducible assumption) | (with_reducible refine Below.alloc ?_ ?_ _) | (with_reducible refine Below.setCell ?_ ?_ _) | (with_reducible refine Below.drew ?_) | (with_reducible refine Below.via (by assumption) ?_ ?_) | go_size)))) Hmul.out.ne Htl.out.1 (by have := Hmul.out.len; omega) (by have := Htl.out.2; omega)).mono ?_); rw [hmm]; rintro e ws ⟨ms, rfl, rfl⟩; have ds := drewN_below wc ms))
            (try go_wp2_with fail)
            refine hK11.out _ _ ?_ (fun hHeld11 => ?_)
            · (((try dsimp only); (repeat' (refine And.intro ?_ ?_)); all_goals (first | assumption | (refine (Below.cell (B := W0.heap.size) (w := W0) ?_ ?_).trans ?_ <;> (first | assumption | omega | (simp only; omega) | (skip; (repeat' (first | (with_reducible exact Below.refl _ _) | (with_reducible assumption) | (with_reducible refine Below.alloc ?_ ?_ _) | (with_reducible refine Below.setCell ?_ ?_ _) | (with_reducible refine Below.drew ?_) | (with_reducible refine Below.via (by assumption) ?_ ?_) | go_size)); done))) | (go_keep; done))))
            clear hK11 K11
            (try simp only [List.getElem_toArray, List.getElem_cons_succ, List.getElem_cons_zero, Act.put, List.setIfInBounds_toArray, List.set_cons_zero, List.set_cons_succ])
            refine wpAnyH_take (i := 12) (v := ?_) rfl (by kernel_rfl) (by kernel_rfl) (by kernel_rfl) (fun _ _ _ h => h) (Or.inl ⟨by rfl, ?_⟩) (by assumption) ?_
            rotate_left 1
            (intro w hSw; (try dsimp only at hSw); go_simp; (try with_reducible rfl))
            (try simp only [List.getElem_toArray, List.getElem_cons_succ, List.getElem_cons_zero, Act.put, List.setIfInBounds_toArray, List.set_cons_zero, List.set_cons_succ])
            refine wpAnyH_take (i := 13) (v := ?_) rfl (by kernel_rfl) (by kernel_rfl) (by kernel_rfl) (fun _ _ _ h => h) (Or.inl ⟨by rfl, ?_⟩) (by assumption) ?_
            rotate_left 1
            (intro w hSw; (try dsimp only at hSw); go_simp; (try with_reducible rfl))
            (try simp only [List.getElem_toArray, List.getElem_cons_succ, List.getElem_cons_zero, Act.put, List.setIfInBounds_toArray, List.set_cons_zero, List.set_cons_succ])
            refine wpAnyH_take (i := 14) (v := ?_) rfl (by kernel_rfl) (by kernel_rfl) (by kernel_rfl) (fun _ _ _ h => h) (Or.inl ⟨by rfl, ?_⟩) (by assumption) ?_
            rotate_left 1
            (intro w hSw; (try dsimp only at hSw); go_simp; (try with_reducible rfl))
            (try simp only [List.getElem_toArray, List.getElem_cons_succ, List.getElem_cons_zero, Act.put, List.setIfInBounds_toArray, List.set_cons_zero, List.set_cons_succ])
            refine wpAnyH_take (i := 15) (v := ?_) rfl (by kernel_rfl) (by kernel_rfl) (by kernel_rfl) (fun _ _ _ h => h) (Or.inl ⟨by rfl, ?_⟩) (by assumption) ?_
            rotate_left 1
            (intro w hSw; (try dsimp only at hSw); go_simp; (try with_reducible rfl))
            (try simp only [List.getElem_toArray, List.getElem_cons_succ, List.getElem_cons_zero, Act.put, List.setIfInBounds_toArray, List.set_cons_zero, List.set_cons_succ])
            refine wpAnyH_take (i := 16) (v := ?_) rfl (by kernel_rfl) (by kernel_rfl) (by kernel_rfl) (fun _ _ _ h => h) (Or.inl ⟨by rfl, ?_⟩) (by assumption) ?_
            rotate_left 1
            (intro w hSw; (try dsimp only at hSw); go_simp; (try with_reducible rfl))
            (try simp only [List.getElem_toArray, List.getElem_cons_succ, List.getElem_cons_zero, Act.put, List.setIfInBounds_toArray, List.set_cons_zero, List.set_cons_succ])
            refine wpAnyH_take (i := 17) (v := ?_) rfl (by kernel_rfl) (by kernel_rfl) (by kernel_rfl) (fun _ _ _ h => h) (Or.inl ⟨by rfl, ?_⟩) (by assumption) ?_
            rotate_left 1
            (intro w hSw; (try dsimp only at hSw); go_simp; (try with_reducible rfl))
            (try simp only [List.getElem_toArray, List.getElem_cons_succ, List.getElem_cons_zero, Act.put, List.setIfInBounds_toArray, List.set_cons_zero, List.set_cons_succ])
            refine wpAnyH_take (i := 18) (v := ?_) rfl (by kernel_rfl) (by kernel_rfl) (by kernel_rfl) (fun _ _ _ h => h) (Or.inl ⟨by rfl, ?_⟩) (by assumption) ?_
            rotate_left 1
            (intro w hSw; (try dsimp only at hSw); go_simp; (try with_reducible rfl))
            (try simp only [List.getElem_toArray, List.getElem_cons_succ, List.getElem_cons_zero, Act.put, List.setIfInBounds_toArray, List.set_cons_zero, List.set_cons_succ])
            refine wpAnyH_ready (rs := [19]) (by kernel_rfl) (by simp) ?_
            refine AllReadyH.cons rfl (fun K19 hK19 => ?_) ?_
            · go_simp
              (go_at_call 72; ((with_reducible refine (common_spec _ _ g h m _ (Hg.out.below (BB0.trans (Below.mono (show Below W0.heap.size W0 _ by (repeat' (first | (with_reducible exact Below.refl _ _) | (with_reducible assumption) | (with_reducible refine Below.alloc ?_ ?_ _) | (with_reducible refine Below.setCell ?_ ?_ _) | (with_reducible refine Below.drew ?_) | (with_reducible refine Below.via (by assumption) ?_ ?_) | go_size))) BB0.size))) (Hh.out.below (BB0.trans (Below.mono (show Below W0.heap.size W0 _ by (repeat' (first | (with_reducible exact Below.refl _ _) | (with_reducible assumption) | (with_reducible refine Below.alloc ?_ ?_ _) | (with_reducible refine Below.setCell ?_ ?_ _) | (with_reducible refine Below.drew ?_) | (with_reducible refine Below.via (by assumption) ?_ ?_) | go_size))) BB0.size))) hm.out Og.out Oh.out).mono ?_); rintro e wd ⟨vd, rfl, rd, dd⟩; obtain ⟨pd, qd, rfl⟩ := rd.shape; have zd := dd.size; (try simp only [World.size_drew, World.size_alloc] at zd)))
              (try go_wp2_with fail)
              refine hK19.out _ _ ?_ (fun hHeld19 => ?_)
              · (((try dsimp only); (repeat' (refine And.intro ?_ ?_)); all_goals (first | assumption | (refine (Below.cell (B := W0.heap.size) (w := W0) ?_ ?_).trans ?_ <;> (first | assumption | omega | (simp only; omega) | (skip; (repeat' (first | (with_reducible exact Below.refl _ _) | (with_reducible assumption) | (with_reducible refine Below.alloc ?_ ?_ _) | (with_reducible refine Below.setCell ?_ ?_ _) | (with_reducible refine Below.drew ?_) | (with_reducible refine Below.via (by assumption) ?_ ?_) | go_size)); done))) | (go_keep; done))))
              clear hK19 K19
              (try simp only [List.getElem_toArray, List.getElem_cons_succ, List.getElem_cons_zero, Act.put, List.setIfInBounds_toArray, List.set_cons_zero, List.set_cons_succ])
              refine wpAnyH_take (i := 20) (v := ?_) rfl (by kernel_rfl) (by kernel_rfl) (by kernel_rfl) (fun _ _ _ h => h) (Or.inl ⟨by rfl, ?_⟩) (by assumption) ?_
              rotate_left 1
              (intro w hSw; (try dsimp only at hSw); go_simp; (try with_reducible rfl))
              (try simp only [List.getElem_toArray, List.getElem_cons_succ, List.getElem_cons_zero, Act.put, List.setIfInBounds_toArray, List.set_cons_zero, List.set_cons_succ])
              refine wpAnyH_take (i := 21) (v := ?_) rfl (by kernel_rfl) (by kernel_rfl) (by kernel_rfl) (fun _ _ _ h => h) (Or.inl ⟨by rfl, ?_⟩) (by assumption) ?_
              rotate_left 1
              (intro w hSw; (try dsimp only at hSw); go_simp; (try with_reducible rfl))
              (try simp only [List.getElem_toArray, List.getElem_cons_succ, List.getElem_cons_zero, Act.put, List.setIfInBounds_toArray, List.set_cons_zero, List.set_cons_succ])
              refine wpAnyH_take (i := 22) (v := ?_) rfl (by kernel_rfl) (by kernel_rfl) (by kernel_rfl) (fun _ _ _ h => h) (Or.inl ⟨by rfl, ?_⟩) (by assumption) ?_
              rotate_left 1
              (intro w hSw; (try dsimp only at hSw); go_simp; (try with_reducible rfl))
              (try simp only [List.getElem_toArray, List.getElem_cons_succ, List.getElem_cons_zero, Act.put, List.setIfInBounds_toArray, List.set_cons_zero, List.set_cons_succ])
              refine wpAnyH_done (by kernel_rfl) ?_ _
              go_wp2_with fail
              go_meet
              refine ⟨?_, by (repeat' (first | (with_reducible exact Below.refl _ _) | (with_reducible assumption) | (with_reducible refine Below.alloc ?_ ?_ _) | (with_reducible refine Below.setCell ?_ ?_ _) | (with_reducible refine Below.drew ?_) | (with_reducible refine Below.via (by assumption) ?_ ?_) | go_size))⟩
              first | rfl | simp [hgn1, hgn2]
            exact AllReadyH.nil
          exact AllReadyH.nil
        exact AllReadyH.nil
      exact AllReadyH.nil
    exact AllReadyH.nil
  case rest =>
    obtain ⟨rfl, hbx⟩ := hcut
    rename World => wx
    replace HB := Lib.hid (HB.out.below hbx)
    clear x4 x5 x6 x8 x9 y8 y9 l4 l5 l6 l8 l9 BB0 hbx hok hgn1 hgn2 hgl hgc hmm hq1 hq2 Hmods Htr Htl Fg Fh hd1 hd2 hd3
    have HKf := Lib.hid (show LiftK w m p g h pp qp pg qg ph qh from ⟨Hp.out, Hg.out, Hh.out, C.out, Ho.out, hv, Fl.1, Fl.2⟩)
    (iterate 8 (try (first | (exact T HKf.out HB.out) | go_step)))

end Go.Proofs.Ytlnjkjogedbhfaa
