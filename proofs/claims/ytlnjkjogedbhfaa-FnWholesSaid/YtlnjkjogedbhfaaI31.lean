/- ExactQuotient of the program. Conditions: lengths of at most 2^40. -/
import Derived.Test.YtlnjkjogedbhfaaI30
import Derived.Deep.RegionHeld3
namespace Go.Proofs.Ytlnjkjogedbhfaa
open Go Go.RowKit
set_option linter.unusedSimpArgs false
set_option linter.unusedVariables false

set_option maxRecDepth 100000 in
set_option maxHeartbeats 8000000 in
theorem ExactQuotient_impl (va vb : Value) (a b : List Int) (w : World) (ha : RdI w va a) (hb : RdI w vb b) (hla : a.length ≤ 1099511627776) (hlb : b.length ≤ 1099511627776) : Calls Try.prog 21 #[.agg #[va], .agg #[vb]] w (RWB (quoR a b) w) := by
  have Ha := Lib.hid ha
  have Hb := Lib.hid hb
  obtain ⟨aoa, ca, rfl⟩ := ha.shape
  obtain ⟨aob, cb, rfl⟩ := hb.shape
  clear ha hb
  have x0 : (((w.alloc (.cells #[.slice aoa a.length ca] 27)).alloc (.cells #[.slice aob b.length cb] 27)).alloc (.cells #[.slice none 0 0] 27)).cell? ⟨w.heap.size, 0, none⟩ = some (.slice aoa a.length ca) := by go_simp
  have x1 : (((w.alloc (.cells #[.slice aoa a.length ca] 27)).alloc (.cells #[.slice aob b.length cb] 27)).alloc (.cells #[.slice none 0 0] 27)).cell? ⟨w.heap.size + 1, 0, none⟩ = some (.slice aob b.length cb) := by go_simp
  have x2 : (((w.alloc (.cells #[.slice aoa a.length ca] 27)).alloc (.cells #[.slice aob b.length cb] 27)).alloc (.cells #[.slice none 0 0] 27)).cell? ⟨w.heap.size + 1 + 1, 0, none⟩ = some (.slice none 0 0) := by go_simp
  have y2 : (((w.alloc (.cells #[.slice aoa a.length ca] 27)).alloc (.cells #[.slice aob b.length cb] 27)).alloc (.cells #[.slice none 0 0] 27)).frozen? ⟨w.heap.size + 1 + 1, 0, none⟩ = false := by go_simp
  have Hbw := Lib.hid (show Below w.heap.size w (((w.alloc (.cells #[.slice aoa a.length ca] 27)).alloc (.cells #[.slice aob b.length cb] 27)).alloc (.cells #[.slice none 0 0] 27)) by (repeat' (first | (with_reducible exact Below.refl _ _) | (with_reducible assumption) | (with_reducible refine Below.alloc ?_ ?_ _) | (with_reducible refine Below.setCell ?_ ?_ _) | (with_reducible refine Below.drew ?_) | (with_reducible refine Below.via (by assumption) ?_ ?_) | go_size)))
  have s0 := World.block_lt_of_cell? _ _ x0
  have s1 := World.block_lt_of_cell? _ _ x1
  have s2 := World.block_lt_of_cell? _ _ x2
  simp only at s0 s1 s2
  cases hqa : validB a
  · have Ho := Lib.hid (quoR_no (a := a) (b := b) (by rw [hqa]; rfl))
    go_enter Try.func21, Try.ntmps21
    go_wp2_with fail
    (go_at_call 24; ((with_reducible refine (valid_impl _ a _ (Ha.out.below (by (repeat' (first | (with_reducible exact Below.refl _ _) | (with_reducible assumption) | (with_reducible refine Below.alloc ?_ ?_ _) | (with_reducible refine Below.setCell ?_ ?_ _) | (with_reducible refine Below.drew ?_) | (with_reducible refine Below.via (by assumption) ?_ ?_) | go_size)))) hla).mono ?_); rintro e w1 ⟨rfl, hb1⟩))
    have zhb1 := hb1.size
    (try simp only [World.size_alloc, World.size_drew] at zhb1)
    replace x0 := (hb1.cell (p := ⟨w.heap.size, 0, none⟩) (by first | omega | (simp <;> omega))).trans x0
    replace x1 := (hb1.cell (p := ⟨w.heap.size + 1, 0, none⟩) (by first | omega | (simp <;> omega))).trans x1
    replace x2 := (hb1.cell (p := ⟨w.heap.size + 1 + 1, 0, none⟩) (by first | omega | (simp <;> omega))).trans x2
    replace y2 := (hb1.frozen (p := ⟨w.heap.size + 1 + 1, 0, none⟩) (by first | omega | (simp <;> omega))).trans y2
    replace Hbw := Lib.hid (Hbw.out.trans (hb1.mono (by first | omega | (simp <;> omega))))
    clear s0 s1 s2
    have s0 := World.block_lt_of_cell? _ _ x0
    have s1 := World.block_lt_of_cell? _ _ x1
    have s2 := World.block_lt_of_cell? _ _ x2
    simp only at s0 s1 s2
    clear hb1
    go_wp2_with fail
    (try simp only [Exit.inBlock, Exit.then]); refine bodyPost_ret (by simp [results, Try.results21, go_sem, *]; try rfl) rfl ?_
    rw [Ho.out]
    exact ⟨_, rfl, OwI.nil _ _, by have h := Hbw.out; (repeat' (first | (with_reducible exact Below.refl _ _) | (with_reducible assumption) | (with_reducible refine Below.alloc ?_ ?_ _) | (with_reducible refine Below.setCell ?_ ?_ _) | (with_reducible refine Below.drew ?_) | (with_reducible refine Below.via (by assumption) ?_ ?_) | go_size))⟩
  cases hqb : validB b
  · have Ho := Lib.hid (quoR_no (a := a) (b := b) (by rw [hqa, hqb]; rfl))
    go_enter Try.func21, Try.ntmps21
    go_wp2_with fail
    (go_at_call 24; ((with_reducible refine (valid_impl _ a _ (Ha.out.below (by (repeat' (first | (with_reducible exact Below.refl _ _) | (with_reducible assumption) | (with_reducible refine Below.alloc ?_ ?_ _) | (with_reducible refine Below.setCell ?_ ?_ _) | (with_reducible refine Below.drew ?_) | (with_reducible refine Below.via (by assumption) ?_ ?_) | go_size)))) hla).mono ?_); rintro e w1 ⟨rfl, hb1⟩))
    have zhb1 := hb1.size
    (try simp only [World.size_alloc, World.size_drew] at zhb1)
    replace x0 := (hb1.cell (p := ⟨w.heap.size, 0, none⟩) (by first | omega | (simp <;> omega))).trans x0
    replace x1 := (hb1.cell (p := ⟨w.heap.size + 1, 0, none⟩) (by first | omega | (simp <;> omega))).trans x1
    replace x2 := (hb1.cell (p := ⟨w.heap.size + 1 + 1, 0, none⟩) (by first | omega | (simp <;> omega))).trans x2
    replace y2 := (hb1.frozen (p := ⟨w.heap.size + 1 + 1, 0, none⟩) (by first | omega | (simp <;> omega))).trans y2
    replace Hbw := Lib.hid (Hbw.out.trans (hb1.mono (by first | omega | (simp <;> omega))))
    clear s0 s1 s2
    have s0 := World.block_lt_of_cell? _ _ x0
    have s1 := World.block_lt_of_cell? _ _ x1
    have s2 := World.block_lt_of_cell? _ _ x2
    simp only at s0 s1 s2
    clear hb1
    go_wp2_with fail
    (go_at_call 24; ((with_reducible refine (valid_impl _ b _ (Hb.out.below (by have h := Hbw.out; (repeat' (first | (with_reducible exact Below.refl _ _) | (with_reducible assumption) | (with_reducible refine Below.alloc ?_ ?_ _) | (with_reducible refine Below.setCell ?_ ?_ _) | (with_reducible refine Below.drew ?_) | (with_reducible refine Below.via (by assumption) ?_ ?_) | go_size)))) hlb).mono ?_); rintro e w2 ⟨rfl, hb2⟩))
    have zhb2 := hb2.size
    (try simp only [World.size_alloc, World.size_drew] at zhb2)
    replace x0 := (hb2.cell (p := ⟨w.heap.size, 0, none⟩) (by first | omega | (simp <;> omega))).trans x0
    replace x1 := (hb2.cell (p := ⟨w.heap.size + 1, 0, none⟩) (by first | omega | (simp <;> omega))).trans x1
    replace x2 := (hb2.cell (p := ⟨w.heap.size + 1 + 1, 0, none⟩) (by first | omega | (simp <;> omega))).trans x2
    replace y2 := (hb2.frozen (p := ⟨w.heap.size + 1 + 1, 0, none⟩) (by first | omega | (simp <;> omega))).trans y2
    replace Hbw := Lib.hid (Hbw.out.trans (hb2.mono (by first | omega | (simp <;> omega))))
    clear s0 s1 s2
    have s0 := World.block_lt_of_cell? _ _ x0
    have s1 := World.block_lt_of_cell? _ _ x1
    have s2 := World.block_lt_of_cell? _ _ x2
    simp only at s0 s1 s2
    clear hb2
    go_wp2_with fail
    (try simp only [Exit.inBlock, Exit.then]); refine bodyPost_ret (by simp [results, Try.results21, go_sem, *]; try rfl) rfl ?_
    rw [Ho.out]
    exact ⟨_, rfl, OwI.nil _ _, by have h := Hbw.out; (repeat' (first | (with_reducible exact Below.refl _ _) | (with_reducible assumption) | (with_reducible refine Below.alloc ?_ ?_ _) | (with_reducible refine Below.setCell ?_ ?_ _) | (with_reducible refine Below.drew ?_) | (with_reducible refine Below.via (by assumption) ?_ ?_) | go_size))⟩
  cases hqz : zeroB b
  case true =>
    have Ho := Lib.hid (quoR_no (a := a) (b := b) (by rw [hqa, hqb, hqz]; rfl))
    go_enter Try.func21, Try.ntmps21
    go_wp2_with fail
    (go_at_call 24; ((with_reducible refine (valid_impl _ a _ (Ha.out.below (by (repeat' (first | (with_reducible exact Below.refl _ _) | (with_reducible assumption) | (with_reducible refine Below.alloc ?_ ?_ _) | (with_reducible refine Below.setCell ?_ ?_ _) | (with_reducible refine Below.drew ?_) | (with_reducible refine Below.via (by assumption) ?_ ?_) | go_size)))) hla).mono ?_); rintro e w1 ⟨rfl, hb1⟩))
    have zhb1 := hb1.size
    (try simp only [World.size_alloc, World.size_drew] at zhb1)
    replace x0 := (hb1.cell (p := ⟨w.heap.size, 0, none⟩) (by first | omega | (simp <;> omega))).trans x0
    replace x1 := (hb1.cell (p := ⟨w.heap.size + 1, 0, none⟩) (by first | omega | (simp <;> omega))).trans x1
    replace x2 := (hb1.cell (p := ⟨w.heap.size + 1 + 1, 0, none⟩) (by first | omega | (simp <;> omega))).trans x2
    replace y2 := (hb1.frozen (p := ⟨w.heap.size + 1 + 1, 0, none⟩) (by first | omega | (simp <;> omega))).trans y2
    replace Hbw := Lib.hid (Hbw.out.trans (hb1.mono (by first | omega | (simp <;> omega))))
    clear s0 s1 s2
    have s0 := World.block_lt_of_cell? _ _ x0
    have s1 := World.block_lt_of_cell? _ _ x1
    have s2 := World.block_lt_of_cell? _ _ x2
    simp only at s0 s1 s2
    clear hb1
    go_wp2_with fail
    (go_at_call 24; ((with_reducible refine (valid_impl _ b _ (Hb.out.below (by have h := Hbw.out; (repeat' (first | (with_reducible exact Below.refl _ _) | (with_reducible assumption) | (with_reducible refine Below.alloc ?_ ?_ _) | (with_reducible refine Below.setCell ?_ ?_ _) | (with_reducible refine Below.drew ?_) | (with_reducible refine Below.via (by assumption) ?_ ?_) | go_size)))) hlb).mono ?_); rintro e w2 ⟨rfl, hb2⟩))
    have zhb2 := hb2.size
    (try simp only [World.size_alloc, World.size_drew] at zhb2)
    replace x0 := (hb2.cell (p := ⟨w.heap.size, 0, none⟩) (by first | omega | (simp <;> omega))).trans x0
    replace x1 := (hb2.cell (p := ⟨w.heap.size + 1, 0, none⟩) (by first | omega | (simp <;> omega))).trans x1
    replace x2 := (hb2.cell (p := ⟨w.heap.size + 1 + 1, 0, none⟩) (by first | omega | (simp <;> omega))).trans x2
    replace y2 := (hb2.frozen (p := ⟨w.heap.size + 1 + 1, 0, none⟩) (by first | omega | (simp <;> omega))).trans y2
    replace Hbw := Lib.hid (Hbw.out.trans (hb2.mono (by first | omega | (simp <;> omega))))
    clear s0 s1 s2
    have s0 := World.block_lt_of_cell? _ _ x0
    have s1 := World.block_lt_of_cell? _ _ x1
    have s2 := World.block_lt_of_cell? _ _ x2
    simp only at s0 s1 s2
    clear hb2
    go_wp2_with fail
    (go_at_call 93; ((with_reducible refine (noWhole_impl _ b _ (Hb.out.below (by have h := Hbw.out; (repeat' (first | (with_reducible exact Below.refl _ _) | (with_reducible assumption) | (with_reducible refine Below.alloc ?_ ?_ _) | (with_reducible refine Below.setCell ?_ ?_ _) | (with_reducible refine Below.drew ?_) | (with_reducible refine Below.via (by assumption) ?_ ?_) | go_size)))) hlb).mono ?_); rintro e w3 ⟨rfl, hb3⟩))
    have zhb3 := hb3.size
    (try simp only [World.size_alloc, World.size_drew] at zhb3)
    replace x0 := (hb3.cell (p := ⟨w.heap.size, 0, none⟩) (by first | omega | (simp <;> omega))).trans x0
    replace x1 := (hb3.cell (p := ⟨w.heap.size + 1, 0, none⟩) (by first | omega | (simp <;> omega))).trans x1
    replace x2 := (hb3.cell (p := ⟨w.heap.size + 1 + 1, 0, none⟩) (by first | omega | (simp <;> omega))).trans x2
    replace y2 := (hb3.frozen (p := ⟨w.heap.size + 1 + 1, 0, none⟩) (by first | omega | (simp <;> omega))).trans y2
    replace Hbw := Lib.hid (Hbw.out.trans (hb3.mono (by first | omega | (simp <;> omega))))
    clear s0 s1 s2
    have s0 := World.block_lt_of_cell? _ _ x0
    have s1 := World.block_lt_of_cell? _ _ x1
    have s2 := World.block_lt_of_cell? _ _ x2
    simp only at s0 s1 s2
    clear hb3
    go_wp2_with fail
    (try simp only [Exit.inBlock, Exit.then]); refine bodyPost_ret (by simp [results, Try.results21, go_sem, *]; try rfl) rfl ?_
    rw [Ho.out]
    exact ⟨_, rfl, OwI.nil _ _, by have h := Hbw.out; (repeat' (first | (with_reducible exact Below.refl _ _) | (with_reducible assumption) | (with_reducible refine Below.alloc ?_ ?_ _) | (with_reducible refine Below.setCell ?_ ?_ _) | (with_reducible refine Below.drew ?_) | (with_reducible refine Below.via (by assumption) ?_ ?_) | go_size))⟩
  have Ho := Lib.hid (quoR_yes (a := a) (b := b) (by rw [hqa, hqb, hqz]; rfl))
  have hva := validB_iff.1 hqa
  have hvb := validB_iff.1 hqb
  have Hva := Lib.hid hva
  have Hvb := Lib.hid hvb
  have hla17 := hva.len
  have hlb17 := hvb.len
  have ha1 : 0 < a.length := List.length_pos_iff.2 hva.ne
  have hb1' : 0 < b.length := List.length_pos_iff.2 hvb.ne
  have hlz := hvb.bd (b.length - 1)
  have hl0 := hvb.trd.last hqz
  rw [← lastZ] at hlz
  have HL := Lib.hid (fun o => quoZ_len (o := o) hva hvb)
  clear hva hvb
  obtain ⟨bb, ob, cb2, hbe, hbs, hcb⟩ := Hb.out.open Hvb.out.ne
  simp only [Value.slice.injEq, true_and] at hbe
  obtain ⟨rfl, rfl⟩ := hbe
  have Hcb := Lib.hid (fun (w' : World) (h : Below w.heap.size w w') i (hi : i < b.length) => (h.cell (p := ⟨bb, ob + i, none⟩) hbs).trans (hcb i hi))
  clear hcb
  go_enter Try.func21, Try.ntmps21
  go_wp2_with fail
  (go_at_call 24; ((with_reducible refine (valid_impl _ a _ (Ha.out.below (by (repeat' (first | (with_reducible exact Below.refl _ _) | (with_reducible assumption) | (with_reducible refine Below.alloc ?_ ?_ _) | (with_reducible refine Below.setCell ?_ ?_ _) | (with_reducible refine Below.drew ?_) | (with_reducible refine Below.via (by assumption) ?_ ?_) | go_size)))) hla).mono ?_); rintro e w1 ⟨rfl, hb1⟩))
  have zhb1 := hb1.size
  (try simp only [World.size_alloc, World.size_drew] at zhb1)
  replace x0 := (hb1.cell (p := ⟨w.heap.size, 0, none⟩) (by first | omega | (simp <;> omega))).trans x0
  replace x1 := (hb1.cell (p := ⟨w.heap.size + 1, 0, none⟩) (by first | omega | (simp <;> omega))).trans x1
  replace x2 := (hb1.cell (p := ⟨w.heap.size + 1 + 1, 0, none⟩) (by first | omega | (simp <;> omega))).trans x2
  replace y2 := (hb1.frozen (p := ⟨w.heap.size + 1 + 1, 0, none⟩) (by first | omega | (simp <;> omega))).trans y2
  replace Hbw := Lib.hid (Hbw.out.trans (hb1.mono (by first | omega | (simp <;> omega))))
  clear s0 s1 s2
  have s0 := World.block_lt_of_cell? _ _ x0
  have s1 := World.block_lt_of_cell? _ _ x1
  have s2 := World.block_lt_of_cell? _ _ x2
  simp only at s0 s1 s2
  clear hb1
  go_wp2_with fail
  (go_at_call 24; ((with_reducible refine (valid_impl _ b _ (Hb.out.below (by have h := Hbw.out; (repeat' (first | (with_reducible exact Below.refl _ _) | (with_reducible assumption) | (with_reducible refine Below.alloc ?_ ?_ _) | (with_reducible refine Below.setCell ?_ ?_ _) | (with_reducible refine Below.drew ?_) | (with_reducible refine Below.via (by assumption) ?_ ?_) | go_size)))) hlb).mono ?_); rintro e w2 ⟨rfl, hb2⟩))
  have zhb2 := hb2.size
  (try simp only [World.size_alloc, World.size_drew] at zhb2)
  replace x0 := (hb2.cell (p := ⟨w.heap.size, 0, none⟩) (by first | omega | (simp <;> omega))).trans x0
  replace x1 := (hb2.cell (p := ⟨w.heap.size + 1, 0, none⟩) (by first | omega | (simp <;> omega))).trans x1
  replace x2 := (hb2.cell (p := ⟨w.heap.size + 1 + 1, 0, none⟩) (by first | omega | (simp <;> omega))).trans x2
  replace y2 := (hb2.frozen (p := ⟨w.heap.size + 1 + 1, 0, none⟩) (by first | omega | (simp <;> omega))).trans y2
  replace Hbw := Lib.hid (Hbw.out.trans (hb2.mono (by first | omega | (simp <;> omega))))
  clear s0 s1 s2
  have s0 := World.block_lt_of_cell? _ _ x0
  have s1 := World.block_lt_of_cell? _ _ x1
  have s2 := World.block_lt_of_cell? _ _ x2
  simp only at s0 s1 s2
  clear hb2
  go_wp2_with fail
  (go_at_call 93; ((with_reducible refine (noWhole_impl _ b _ (Hb.out.below (by have h := Hbw.out; (repeat' (first | (with_reducible exact Below.refl _ _) | (with_reducible assumption) | (with_reducible refine Below.alloc ?_ ?_ _) | (with_reducible refine Below.setCell ?_ ?_ _) | (with_reducible refine Below.drew ?_) | (with_reducible refine Below.via (by assumption) ?_ ?_) | go_size)))) hlb).mono ?_); rintro e w3 ⟨rfl, hb3⟩))
  have zhb3 := hb3.size
  (try simp only [World.size_alloc, World.size_drew] at zhb3)
  replace x0 := (hb3.cell (p := ⟨w.heap.size, 0, none⟩) (by first | omega | (simp <;> omega))).trans x0
  replace x1 := (hb3.cell (p := ⟨w.heap.size + 1, 0, none⟩) (by first | omega | (simp <;> omega))).trans x1
  replace x2 := (hb3.cell (p := ⟨w.heap.size + 1 + 1, 0, none⟩) (by first | omega | (simp <;> omega))).trans x2
  replace y2 := (hb3.frozen (p := ⟨w.heap.size + 1 + 1, 0, none⟩) (by first | omega | (simp <;> omega))).trans y2
  replace Hbw := Lib.hid (Hbw.out.trans (hb3.mono (by first | omega | (simp <;> omega))))
  clear s0 s1 s2
  have s0 := World.block_lt_of_cell? _ _ x0
  have s1 := World.block_lt_of_cell? _ _ x1
  have s2 := World.block_lt_of_cell? _ _ x2
  simp only at s0 s1 s2
  clear hb3
  cases hz : zeroB a
  case true =>
    have Hd := Lib.hid (show quoZ a b = some [0] by rw [quoZ, hz]; rfl)
    go_wp2_with fail
    (go_at_call 93; ((with_reducible refine (noWhole_impl _ a _ (Ha.out.below (by have h := Hbw.out; (repeat' (first | (with_reducible exact Below.refl _ _) | (with_reducible assumption) | (with_reducible refine Below.alloc ?_ ?_ _) | (with_reducible refine Below.setCell ?_ ?_ _) | (with_reducible refine Below.drew ?_) | (with_reducible refine Below.via (by assumption) ?_ ?_) | go_size)))) hla).mono ?_); rintro e w4 ⟨rfl, hb4⟩))
    have zhb4 := hb4.size
    (try simp only [World.size_alloc, World.size_drew] at zhb4)
    replace x0 := (hb4.cell (p := ⟨w.heap.size, 0, none⟩) (by first | omega | (simp <;> omega))).trans x0
    replace x1 := (hb4.cell (p := ⟨w.heap.size + 1, 0, none⟩) (by first | omega | (simp <;> omega))).trans x1
    replace x2 := (hb4.cell (p := ⟨w.heap.size + 1 + 1, 0, none⟩) (by first | omega | (simp <;> omega))).trans x2
    replace y2 := (hb4.frozen (p := ⟨w.heap.size + 1 + 1, 0, none⟩) (by first | omega | (simp <;> omega))).trans y2
    replace Hbw := Lib.hid (Hbw.out.trans (hb4.mono (by first | omega | (simp <;> omega))))
    clear s0 s1 s2
    have s0 := World.block_lt_of_cell? _ _ x0
    have s1 := World.block_lt_of_cell? _ _ x1
    have s2 := World.block_lt_of_cell? _ _ x2
    simp only at s0 s1 s2
    clear hb4
    go_wp2_with fail
    (try simp only [Exit.inBlock, Exit.then]); refine bodyPost_ret (by simp [results, Try.results21, go_sem, *]; try rfl) rfl ?_
    rw [Ho.out, Hd.out]
    show RWB (giveF (trimZ [0])) _ _ _
    rw [show giveF (trimZ [0]) = ([0], true) from rfl]
    exact ⟨_, rfl, OwI.litS (by simp) (by omega), by have h := Hbw.out; (repeat' (first | (with_reducible exact Below.refl _ _) | (with_reducible assumption) | (with_reducible refine Below.alloc ?_ ?_ _) | (with_reducible refine Below.setCell ?_ ?_ _) | (with_reducible refine Below.drew ?_) | (with_reducible refine Below.via (by assumption) ?_ ?_) | go_size))⟩
  have Hz := Lib.hid hz
  go_wp2_with fail
  (go_at_call 93; ((with_reducible refine (noWhole_impl _ a _ (Ha.out.below (by have h := Hbw.out; (repeat' (first | (with_reducible exact Below.refl _ _) | (with_reducible assumption) | (with_reducible refine Below.alloc ?_ ?_ _) | (with_reducible refine Below.setCell ?_ ?_ _) | (with_reducible refine Below.drew ?_) | (with_reducible refine Below.via (by assumption) ?_ ?_) | go_size)))) hla).mono ?_); rintro e w4 ⟨rfl, hb4⟩))
  have zhb4 := hb4.size
  (try simp only [World.size_alloc, World.size_drew] at zhb4)
  replace x0 := (hb4.cell (p := ⟨w.heap.size, 0, none⟩) (by first | omega | (simp <;> omega))).trans x0
  replace x1 := (hb4.cell (p := ⟨w.heap.size + 1, 0, none⟩) (by first | omega | (simp <;> omega))).trans x1
  replace x2 := (hb4.cell (p := ⟨w.heap.size + 1 + 1, 0, none⟩) (by first | omega | (simp <;> omega))).trans x2
  replace y2 := (hb4.frozen (p := ⟨w.heap.size + 1 + 1, 0, none⟩) (by first | omega | (simp <;> omega))).trans y2
  replace Hbw := Lib.hid (Hbw.out.trans (hb4.mono (by first | omega | (simp <;> omega))))
  clear s0 s1 s2
  have s0 := World.block_lt_of_cell? _ _ x0
  have s1 := World.block_lt_of_cell? _ _ x1
  have s2 := World.block_lt_of_cell? _ _ x2
  simp only at s0 s1 s2
  clear hb4
  go_wp2_with fail
  clear hqa hqb hqz hz
  (go_at_call 79; ((with_reducible refine (degree_exact (some ⟨bb, ob, none⟩) b.length cb _ (by omega)).mono ?_); rintro e w' ⟨rfl, rfl⟩))
  obtain ⟨n, hn⟩ : ∃ n, b.length = n + 1 := ⟨b.length - 1, by omega⟩
  have hn1 : b.length ≤ n + 1 := by omega
  have hn2 : n + 1 ≤ b.length := by omega
  clear hn
  rw [show ((b.length : Int) - 1) = (n : Int) by omega]
  have m0 : w.heap.size < w4.heap.size + 1 := by omega
  have m1 : w.heap.size + 1 < w4.heap.size + 1 := by omega
  have m2 : w.heap.size + 1 + 1 < w4.heap.size + 1 := by omega
  go_wp2_with fail
  (go_at_call 79; ((with_reducible refine (degree_exact aoa a.length ca _ (by omega)).mono ?_); rintro e w' ⟨rfl, rfl⟩))
  generalize hw5 : (w4.alloc _).alloc _ = w5
  have hb5 : Below w4.heap.size w4 w5 := by rw [← hw5]; (repeat' (first | (with_reducible exact Below.refl _ _) | (with_reducible assumption) | (with_reducible refine Below.alloc ?_ ?_ _) | (with_reducible refine Below.setCell ?_ ?_ _) | (with_reducible refine Below.drew ?_) | (with_reducible refine Below.via (by assumption) ?_ ?_) | go_size))
  clear hw5 m0 m1 m2
  have zhb5 := hb5.size
  (try simp only [World.size_alloc, World.size_drew] at zhb5)
  replace x0 := (hb5.cell (p := ⟨w.heap.size, 0, none⟩) (by first | omega | (simp <;> omega))).trans x0
  replace x1 := (hb5.cell (p := ⟨w.heap.size + 1, 0, none⟩) (by first | omega | (simp <;> omega))).trans x1
  replace x2 := (hb5.cell (p := ⟨w.heap.size + 1 + 1, 0, none⟩) (by first | omega | (simp <;> omega))).trans x2
  replace y2 := (hb5.frozen (p := ⟨w.heap.size + 1 + 1, 0, none⟩) (by first | omega | (simp <;> omega))).trans y2
  replace Hbw := Lib.hid (Hbw.out.trans (hb5.mono (by first | omega | (simp <;> omega))))
  clear s0 s1 s2
  have s0 := World.block_lt_of_cell? _ _ x0
  have s1 := World.block_lt_of_cell? _ _ x1
  have s2 := World.block_lt_of_cell? _ _ x2
  simp only at s0 s1 s2
  clear hb5
  by_cases hab : a.length < b.length
  · have Hd := Lib.hid (show quoZ a b = none by rw [quoZ, Hz.out, if_pos hab]; rfl)
    have hab2 : (a.length : Int) - 1 < (n : Int) := by omega
    go_wp2_with fail
    (try simp only [Exit.inBlock, Exit.then]); refine bodyPost_ret (by simp [results, Try.results21, go_sem, *]; try rfl) rfl ?_
    rw [Ho.out, Hd.out]
    exact ⟨_, rfl, OwI.nil _ _, by have h := Hbw.out; (repeat' (first | (with_reducible exact Below.refl _ _) | (with_reducible assumption) | (with_reducible refine Below.alloc ?_ ?_ _) | (with_reducible refine Below.setCell ?_ ?_ _) | (with_reducible refine Below.drew ?_) | (with_reducible refine Below.via (by assumption) ?_ ?_) | go_size))⟩
  · have hcnt : b.length ≤ a.length := by omega
    have hab2 : ¬ ((a.length : Int) - 1 < (n : Int)) := by omega
    have Hd := Lib.hid (show quoZ a b = match eqGo b (a.length - b.length + 1) (a, List.replicate (a.length - b.length + 1) 0) with
        | none => none
        | some (r, o) => if (∀ i, i < r.length → r.getD i 0 = 0) then some o else none by rw [quoZ, Hz.out, if_neg (by simp), if_neg hab]; cases eqGo b (a.length - b.length + 1) (a, List.replicate (a.length - b.length + 1) 0) <;> rfl)
    go_wp2_with (first | (go_at_call 94; (refine (clone_impl _ a _ (Ha.out.below (by have h := Hbw.out; (repeat' (first | (with_reducible exact Below.refl _ _) | (with_reducible assumption) | (with_reducible refine Below.alloc ?_ ?_ _) | (with_reducible refine Below.setCell ?_ ?_ _) | (with_reducible refine Below.drew ?_) | (with_reducible refine Below.via (by assumption) ?_ ?_) | go_size)))) Hva.out.ne hla).mono ?_); rintro e w6 ⟨g1, cap1, rfl, hg1, hr1, hbl1⟩; have zl1 := hbl1.size; have lg1 := hr1.lt) | (at_make; refine wpList_makeI _ rfl _ _ _ rfl int64S_under _ _ (a.length - b.length + 1) rfl rfl (by omega) (by omega) (by omega) ?_; intro w7 hr2 hbl2 hlt2; have zl2 := hbl2.size))
    have hb7 : Below w5.heap.size w5 w7 := hbl1.trans (hbl2.mono zl1)
    have Hr1 := Lib.hid (hr1.below hbl2)
    have Hr2 := Lib.hid (hr2.mono zl1)
    have hg6 : g1 < w6.heap.size := lg1
    clear hr1 hr2 hbl1 hbl2
    generalize hG : eqGo b (a.length - b.length + 1) (a, List.replicate (a.length - b.length + 1) 0) = G at *
    have HG := Lib.hid hG
    have Hl0 := Lib.hid hl0
    have Hl := Lib.hid (show b.getD (b.length - 1) 0 = lastZ b from rfl)
    have X1 := Lib.hid (fun (w' : World) (h : Below w5.heap.size w5 w') => (h.cell (p := ⟨w.heap.size + 1, 0, none⟩) s1).trans x1)
    have X2 := Lib.hid (fun (w' : World) (h : Below w5.heap.size w5 w') => (h.cell (p := ⟨w.heap.size + 1 + 1, 0, none⟩) s2).trans x2)
    have Y2 := Lib.hid (fun (w' : World) (h : Below w5.heap.size w5 w') => (h.frozen (p := ⟨w.heap.size + 1 + 1, 0, none⟩) s2).trans y2)
    have Hcb5 := Lib.hid (fun (w' : World) (h : Below w5.heap.size w5 w') => Hcb.out w' (Hbw.out.trans (h.mono Hbw.out.size)))
    have sw5 := Hbw.out.size
    clear x0 x1 x2 y2 hG hl0
    go_loopw [9] (fun i wr => ∃ (k : Nat) (L O : List Int), k ≤ (a.length - b.length + 1) ∧ i = .int .i64 ((k : Int) - 1) ∧ RowI wr w5.heap.size (.slice (some ⟨g1, 0, none⟩) a.length cap1) L ∧ RowI wr w5.heap.size (.slice (some ⟨w6.heap.size, 0, none⟩) (a.length - b.length + 1) (a.length - b.length + 1)) O ∧ eqGo b k (L, O) = G ∧ BdI (1000000 + ((a.length - b.length + 1 - k : Nat) : Int) * 1000000000000) L ∧ L.length = a.length ∧ O.length = (a.length - b.length + 1) ∧ Below w5.heap.size w5 wr) (fun i _ => (intOf i + 1).toNat)
    case atStart => exact ⟨(a.length - b.length + 1), a, _, Nat.le_refl _, by go_num, Hr1.out, Hr2.out, HG.out, Hva.out.bd.mono (by omega), rfl, by simp, hb7⟩
    case round =>
      obtain ⟨k0, L, O, hk, rfl, hrL, hrO, hgo, hbd, hlL, hlO, hbel⟩ := hrel
      have HrO := Lib.hid hrO
      have HrL := Lib.hid hrL
      have Hbel := Lib.hid hbel
      have Hgo2 := Lib.hid hgo
      have Hbd := Lib.hid hbd
      have hsz := hbel.size
      have x1 := X1.out wr hbel
      have x2 := X2.out wr hbel
      have y2 := Y2.out wr hbel
      have t1 : w.heap.size + 1 < wr.heap.size := by omega
      have t2 : w.heap.size + 1 + 1 < wr.heap.size := by omega
      clear hrL hrO hgo hbd
      cases k0 with
      | zero =>
        have HG2 := Lib.hid (show G = some (L, O) from Hgo2.out.symm)
        have Hd2 := Lib.hid (show quoZ a b = if (∀ i, i < L.length → L.getD i 0 = 0) then some O else none by rw [Hd.out, HG2.out])
        clear hbel
        go_wp2_with fail
        (go_at_call 96; ((with_reducible refine (contains_notZero _ L _ HrL.out.own.rd (by omega)).mono ?_); rintro e w' ⟨rfl, rfl⟩))
        cases hany : L.any fun z => z != 0
        · have Hf := Lib.hid (show quoZ a b = some O by
            rw [Hd2.out, if_pos]
            intro i hi
            have h := List.any_eq_false.1 hany (L.getD i 0) (by rw [List.getD_eq_getElem?_getD, List.getElem?_eq_getElem hi]; simp)
            simpa using h)
          have hOl : O.length ≤ 17 := by omega
          clear hany
          go_wp2_with fail
          (go_at_call 86; ((with_reducible refine (whole_impl _ O _ w5.heap.size HrO.out.own (by omega)).mono ?_); rintro e w8 ⟨v8, rfl, ho8, hb8⟩))
          have z8 := hb8.size
          have Ho8 := Lib.hid ho8
          have hT : (trimZ O).length ≤ 17 := by rw [trimZ_length]; exact Nat.le_trans (trimTo_le _ _) hOl
          obtain ⟨p8, n8, rfl⟩ := ho8.rd.shape
          clear ho8
          generalize hT0 : trimZ O = T at *
          have HTe := Lib.hid hT0
          clear hT0
          go_wp2_with fail
          (go_at_call 92; ((with_reducible refine (checked_impl _ T _ w5.heap.size Ho8.out (by omega)).mono ?_); rintro e w9 ⟨v9, rfl, ho9, hb9⟩))
          have z9 := hb9.size
          have Ho9 := Lib.hid ho9
          have Hb9 := Lib.hid (show Below w5.heap.size w5 w9 from Hbel.out.trans ((hb8.mono hsz).trans (hb9.mono (by omega))))
          obtain ⟨p9, n9, rfl⟩ := ho9.rd.shape
          clear ho9 hb8 hb9 x1 x2 y2
          have x2 := X2.out w9 Hb9.out
          have y2 := Y2.out w9 Hb9.out
          generalize hF0 : giveF T = F at *
          have HFe := Lib.hid hF0
          clear hF0
          have t3 : w.heap.size + 1 + 1 < w9.heap.size := by omega
          go_wp2_with fail
          (try simp only [Exit.inBlock, Exit.then]); refine bodyPost_ret (by simp [results, Try.results21, go_sem, *]; try rfl) rfl ?_
          rw [Ho.out, Hf.out]
          show RWB (giveF (trimZ O)) _ _ _
          rw [HTe.out, HFe.out]
          exact ⟨_, rfl, OwI.mono (B := w5.heap.size) (OwI.setCell Ho9.out (by show w.heap.size + 1 + 1 < _; omega) _) (by omega), by have h := Hb9.out; have h2 := Hbw.out; (repeat' (first | (with_reducible exact Below.refl _ _) | (with_reducible assumption) | (with_reducible refine Below.alloc ?_ ?_ _) | (with_reducible refine Below.setCell ?_ ?_ _) | (with_reducible refine Below.drew ?_) | (with_reducible refine Below.via (by assumption) ?_ ?_) | go_size))⟩
        · have Hf := Lib.hid (show quoZ a b = none by
            rw [Hd2.out, if_neg]
            intro h
            obtain ⟨z, hz1, hz2⟩ := List.any_eq_true.1 hany
            obtain ⟨i, hi, rfl⟩ := List.getElem_of_mem hz1
            have h3 := h i hi
            rw [List.getD_eq_getElem?_getD, List.getElem?_eq_getElem hi] at h3
            simp at hz2 h3
            exact hz2 h3)
          have Hb5 := Lib.hid (Hbw.out.trans (Hbel.out.mono sw5))
          clear hany
          go_wp2_with fail
          (try simp only [Exit.inBlock, Exit.then]); refine bodyPost_ret (by simp [results, Try.results21, go_sem, *]; try rfl) rfl ?_
          rw [Ho.out, Hf.out]
          exact ⟨_, rfl, OwI.nil _ _, by have h := Hb5.out; (repeat' (first | (with_reducible exact Below.refl _ _) | (with_reducible assumption) | (with_reducible refine Below.alloc ?_ ?_ _) | (with_reducible refine Below.setCell ?_ ?_ _) | (with_reducible refine Below.drew ?_) | (with_reducible refine Below.via (by assumption) ?_ ?_) | go_size))⟩
      | succ k =>
        have hidx : k + b.length - 1 = k + n := by omega
        have c2 := HrL.out.cell (j := k + n) (by omega)
        have hl := Hbd.out (k + n)
        have hN : ((a.length - b.length + 1 - (k + 1) : Nat) : Int) ≤ 17 := by omega
        have hle : -18000000000000 ≤ L.getD (k + n) 0 ∧ L.getD (k + n) 0 ≤ 18000000000000 := by omega
        have Hgo3 := Hgo2.out
        unfold eqGo at Hgo3
        rw [hidx] at Hgo3
        have Hgo4 := Lib.hid Hgo3
        have lg1' := HrL.out.lt
        generalize hlL2 : L.getD (k + n) 0 = l at *
        generalize hlbe : lastZ b = lb at *
        have hl0 := Hl0.out
        have hl00 : ¬ (lb = 0) := hl0
        have htd := tdiv_bd (g := lb) hle
        have HlL := Lib.hid hlL2
        clear Hgo3 hlL2 hl hbel hlbe hidx
        rw [show (((k + 1 : Nat) : Int) - 1) = (k : Int) by omega]
        have q1 : IntKind.i64.wrap ((k : Int) + n) = (k : Int) + n := IntWalk.i64_in _ ⟨by omega, by omega⟩
        have q2 : (k : Int) + n < (a.length : Int) := by omega
        have q3 : ((k : Int) + n).toNat = k + n := by omega
        have q6 : (0 : Int) ≤ (k : Int) + n := by omega
        go_wp2
        go_region_held3 (fun w' => w'.cell? ⟨w.heap.size + 1, 0, none⟩ = some (.slice (some ⟨bb, ob, none⟩) b.length cb) ∧ w'.cell? ⟨g1, k + n, none⟩ = some (.int .i64 l))
          (((try dsimp only); (try go_split_ands); refine ⟨?_, ?_⟩ <;> (first | assumption  | (refine (((Below.refl _ _).alloc (Nat.le_refl _) _).cell (by first | omega | (simp <;> omega))).trans (by assumption)) | (rw [World.cell?_setCell_far _ _ _ _ (by first | omega | (simp <;> omega))]; assumption) | (go_keep; done))))
          (first
            | (go_at_call 80; ((with_reducible refine (last_exact bb ob _ cb lb _ hb1' (by omega) (by first | omega | (simp; omega)) (by rw [← Hl.out]; exact Hcb5.out _ (by have h := Hbel.out; (repeat' (first | (with_reducible exact Below.refl _ _) | (with_reducible assumption) | (with_reducible refine Below.alloc ?_ ?_ _) | (with_reducible refine Below.setCell ?_ ?_ _) | (with_reducible refine Below.drew ?_) | (with_reducible refine Below.via (by assumption) ?_ ?_) | go_size))) _ (by omega))).mono ?_); rintro e w' ⟨rfl, rfl⟩)))
        generalize hw13 : (wr.alloc _).drew = w13
        have hb13 : Below wr.heap.size wr w13 := by rw [← hw13]; (repeat' (first | (with_reducible exact Below.refl _ _) | (with_reducible assumption) | (with_reducible refine Below.alloc ?_ ?_ _) | (with_reducible refine Below.setCell ?_ ?_ _) | (with_reducible refine Below.drew ?_) | (with_reducible refine Below.via (by assumption) ?_ ?_) | go_size))
        have Hbel13 := Lib.hid (Hbel.out.trans (hb13.mono hsz))
        have HrL13 := Lib.hid (HrL.out.below hb13)
        have HrO13 := Lib.hid (HrO.out.below hb13)
        have z13 := hb13.size
        clear hw13 x1 x2 y2 c2 hb13 t1 t2
        have x1 := X1.out w13 Hbel13.out
        have x2 := X2.out w13 Hbel13.out
        have y2 := Y2.out w13 Hbel13.out
        have t1 : w.heap.size + 1 < w13.heap.size := by omega
        have t2 : w.heap.size + 1 + 1 < w13.heap.size := by omega
        have t3 : g1 < w13.heap.size := by omega
        have t4 := HrO13.out.lt
        by_cases h1 : l.tmod lb = 0
        · have c2 := HrL13.out.cell (j := k + n) (by omega)
          have c3 := HrO13.out.cell (j := k) (by omega)
          have c4 := HrO13.out.frozen k
          rw [HlL.out] at c2
          generalize O.getD k 0 = oldq at c3
          have n1 : ¬ (w6.heap.size = w.heap.size + 1) := by omega
          have n2 : ¬ (g1 = w6.heap.size) := by omega
          have n3 : ¬ (w.heap.size + 1 = w6.heap.size) := by omega
          have n4 : ¬ (w6.heap.size = g1) := by omega
          have q7 : IntKind.i64.wrap (l.tdiv lb) = l.tdiv lb := IntWalk.i64_in _ ⟨by omega, by omega⟩
          have hk1 : (k : Int) < ((a.length - b.length : Nat) : Int) + 1 := by omega
          have hk2 : k < a.length - b.length + 1 := by omega
          have hk3 : k ≤ a.length - b.length := by omega
          go_wp2
          go_region_held3 (fun w' => w'.cell? ⟨w.heap.size + 1, 0, none⟩ = some (.slice (some ⟨bb, ob, none⟩) b.length cb) ∧ w'.cell? ⟨g1, k + n, none⟩ = some (.int .i64 l))
            (((try dsimp only); (try go_split_ands); refine ⟨?_, ?_⟩ <;> (first | assumption  | (refine (((Below.refl _ _).alloc (Nat.le_refl _) _).cell (by first | omega | (simp <;> omega))).trans (by assumption)) | (rw [World.cell?_setCell_far _ _ _ _ (by first | omega | (simp <;> omega))]; assumption) | (go_keep; done))))
            (first
              | (go_at_call 80; ((with_reducible refine (last_exact bb ob _ cb lb _ hb1' (by omega) (by first | omega | (simp; omega)) (by rw [← Hl.out]; exact Hcb5.out _ (by have h := Hbel13.out; (repeat' (first | (with_reducible exact Below.refl _ _) | (with_reducible assumption) | (with_reducible refine Below.alloc ?_ ?_ _) | (with_reducible refine Below.setCell ?_ ?_ _) | (with_reducible refine Below.drew ?_) | (with_reducible refine Below.via (by assumption) ?_ ?_) | go_size))) _ (by omega))).mono ?_); rintro e w' ⟨rfl, rfl⟩)))
          generalize hw15 : ((World.setCell _ _ _).alloc _).drew = w15
          have HrL15 := Lib.hid (show RowI w15 w5.heap.size (.slice (some ⟨g1, 0, none⟩) a.length cap1) L by rw [← hw15]; exact (HrL13.out.setOther (by first | omega | (simp only; omega)) _).below (((Below.refl _ _).alloc (Nat.le_refl _) _).drew))
          have HrO15 := Lib.hid (show RowI w15 w5.heap.size (.slice (some ⟨w6.heap.size, 0, none⟩) (a.length - b.length + 1) (a.length - b.length + 1)) (O.set k (l.tdiv lb)) by rw [← hw15]; exact (HrO13.out.set k (l.tdiv lb)).below (((Below.refl _ _).alloc (Nat.le_refl _) _).drew))
          have Hbel15 := Lib.hid (show Below w5.heap.size w5 w15 by rw [← hw15]; have h := Hbel13.out; (repeat' (first | (with_reducible exact Below.refl _ _) | (with_reducible assumption) | (with_reducible refine Below.alloc ?_ ?_ _) | (with_reducible refine Below.setCell ?_ ?_ _) | (with_reducible refine Below.drew ?_) | (with_reducible refine Below.via (by assumption) ?_ ?_) | go_size)))
          clear hw15 x1 x2 y2 c2 c3 c4 t1 t2 t3 t4
          have x1 := X1.out w15 Hbel15.out
          have x2 := X2.out w15 Hbel15.out
          have y2 := Y2.out w15 Hbel15.out
          have sz15 := Hbel15.out.size
          have t1 : w.heap.size + 1 < w15.heap.size := by omega
          have t2 : w.heap.size + 1 + 1 < w15.heap.size := by omega
          have c5 := HrO15.out.cell (j := k) (by rw [List.length_set]; omega)
          rw [set_getD _ _ _ _ (by omega), if_pos rfl] at c5
          cases hin : inB (-1000000) (l.tdiv lb) 1000000
          · have Hf := Lib.hid (show quoZ a b = none by
              have h := Hgo4.out
              rw [if_pos h1, if_neg (by rw [hin]; simp)] at h
              rw [Hd.out, ← h])
            have Hb5 := Lib.hid (Hbw.out.trans (Hbel15.out.mono sw5))
            go_wp2_with fail
            (go_at_call 95; ((with_reducible refine (within_impl _ _ _ _).mono ?_); rintro e w' ⟨rfl, rfl⟩))
            go_wp2_with fail
            (try simp only [Exit.inBlock, Exit.then]); refine bodyPost_ret (by simp [results, Try.results21, go_sem, *]; try rfl) rfl ?_
            rw [Ho.out, Hf.out]
            exact ⟨_, rfl, OwI.nil _ _, by have h := Hb5.out; (repeat' (first | (with_reducible exact Below.refl _ _) | (with_reducible assumption) | (with_reducible refine Below.alloc ?_ ?_ _) | (with_reducible refine Below.setCell ?_ ?_ _) | (with_reducible refine Below.drew ?_) | (with_reducible refine Below.via (by assumption) ?_ ?_) | go_size))⟩
          · have Hgo5 := Lib.hid (show eqGo b k (stB L b (l.tdiv lb) k b.length, O.set k (l.tdiv lb)) = G by
              have h := Hgo4.out
              rw [if_pos h1, if_pos hin] at h
              exact h)
            have hq := inB_true.1 hin
            go_wp2_with fail
            (go_at_call 95; ((with_reducible refine (within_impl _ _ _ _).mono ?_); rintro e w' ⟨rfl, rfl⟩))
            generalize l.tdiv lb = q at *
            go_wp2
            clear h1 hin hl00 hl0 htd hle c5
            go_loopw [84] (fun jj w3 => ∃ j : Nat, j ≤ b.length ∧ jj = .int .i64 j ∧ RowI w3 w5.heap.size (.slice (some ⟨g1, 0, none⟩) a.length cap1) (stB L b q k j) ∧ RowI w3 w5.heap.size (.slice (some ⟨w6.heap.size, 0, none⟩) (a.length - b.length + 1) (a.length - b.length + 1)) (O.set k q) ∧ Below w5.heap.size w5 w3) (fun jj _ => b.length - (intOf jj).toNat)
            case atStart => exact ⟨0, Nat.zero_le _, rfl, HrL15.out, HrO15.out, Hbel15.out⟩
            case round =>
              obtain ⟨j, hj, rfl, hrL2, hrO2, hbel2⟩ := hrel
              have HrL2 := Lib.hid hrL2
              have HrO2 := Lib.hid hrO2
              have Hbel2 := Lib.hid hbel2
              have sz2 := hbel2.size
              clear hrL2 hrO2
              by_cases hlt : j < b.length
              · have hls : (stB L b q k j).length = a.length := by rw [stB_length, hlL]
                have c5 := HrL2.out.cell (j := k + j) (by omega)
                have c6 := HrL2.out.frozen (k + j)
                have c7 := Hcb5.out wr hbel2 j hlt
                have c8 := HrO2.out.cell (j := k) (by rw [List.length_set]; omega)
                rw [set_getD _ _ _ _ (by omega), if_pos rfl] at c8
                have hX := stB_bdG Hbd.out (by omega) Hvb.out.bd hq (s := k) (k := j) (by omega) (k + j)
                have hp := mul_bound (M := 1000000) (by omega) hq (Hvb.out.bd j)
                have H2 := Lib.hid (HrL2.out.set (k + j) ((stB L b q k j).getD (k + j) 0 - q * b.getD j 0))
                have H3 := Lib.hid (show stB L b q k (j + 1) = (stB L b q k j).set (k + j) ((stB L b q k j).getD (k + j) 0 - q * b.getD j 0) from rfl)
                clear hbel2 x1 x2 y2
                generalize (stB L b q k j).getD (k + j) 0 = l2 at *
                generalize b.getD j 0 = y at *
                have q1 : IntKind.i64.wrap ((k : Int) + j) = (k : Int) + j := IntWalk.i64_in _ ⟨by omega, by omega⟩
                have q2 : (k : Int) + j < (a.length : Int) := by omega
                have q3 : ((k : Int) + j).toNat = k + j := by omega
                have q4 : IntKind.i64.wrap (q * y) = q * y := IntWalk.i64_in _ ⟨by omega, by omega⟩
                have q5 : IntKind.i64.wrap (l2 - q * y) = l2 - q * y := IntWalk.i64_in _ ⟨by omega, by omega⟩
                have q6 : (0 : Int) ≤ (k : Int) + j := by omega
                go_wp2
                (refine wp_region_still_tail 14 (by kernel_rfl) (by kernel_rfl) ?_; simp only [List.take_succ_cons, List.take_zero, List.drop_succ_cons, List.drop_zero]; repeat still_step; (try refine wpStill_nil ?_))
                change wpList _ _ _ _ _ (World.drew _)
                go_wp2
                go_roundw
                case rel =>
                  refine ⟨j + 1, by omega, by go_num, ?_, ?_, ?_⟩
                  · rw [H3.out]; exact H2.out
                  · exact HrO2.out.setOther (by simp; omega) _
                  · have h3 := Hbel2.out; (repeat' (first | (with_reducible exact Below.refl _ _) | (with_reducible assumption) | (with_reducible refine Below.alloc ?_ ?_ _) | (with_reducible refine Below.setCell ?_ ?_ _) | (with_reducible refine Below.drew ?_) | (with_reducible refine Below.via (by assumption) ?_ ?_) | go_size))
                case measure => simp [intOf] <;> omega
              · obtain rfl : j = b.length := by omega
                clear hbel2 x1 x2 y2
                go_wp2
                go_roundw
                case rel =>
                  exact ⟨k, _, _, by omega, by go_num, HrL2.out, HrO2.out, Hgo5.out, (stB_bdG Hbd.out (by omega) Hvb.out.bd hq (by omega)).mono (by omega), by rw [stB_length, hlL], by rw [List.length_set, hlO], Hbel2.out⟩
                case measure => simp [intOf] <;> omega
        · have Hf := Lib.hid (show quoZ a b = none by
            have h := Hgo4.out
            rw [if_neg h1] at h
            rw [Hd.out, ← h])
          have Hb5 := Lib.hid (Hbw.out.trans (Hbel13.out.mono sw5))
          have h12 : (l.tmod lb == 0) = false := by simpa using h1
          go_wp2
          (try simp only [Exit.inBlock, Exit.then]); refine bodyPost_ret (by simp [results, Try.results21, go_sem, *]; try rfl) rfl ?_
          rw [Ho.out, Hf.out]
          exact ⟨_, rfl, OwI.nil _ _, by have h := Hb5.out; (repeat' (first | (with_reducible exact Below.refl _ _) | (with_reducible assumption) | (with_reducible refine Below.alloc ?_ ?_ _) | (with_reducible refine Below.setCell ?_ ?_ _) | (with_reducible refine Below.drew ?_) | (with_reducible refine Below.via (by assumption) ?_ ?_) | go_size))⟩

end Go.Proofs.Ytlnjkjogedbhfaa
