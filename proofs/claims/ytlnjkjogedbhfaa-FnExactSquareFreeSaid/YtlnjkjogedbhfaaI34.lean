/- SquareFree of the program. Conditions: lengths of at most 2^40. -/
import Derived.Test.YtlnjkjogedbhfaaI33
import Derived.Test.YtlnjkjogedbhfaaI31
import Derived.Test.YtlnjkjogedbhfaaI27
namespace Go.Proofs.Ytlnjkjogedbhfaa
open Go Go.RowKit
set_option linter.unusedSimpArgs false
set_option linter.unusedVariables false

theorem RowV.lt {w : World} {B g n cap : Nat} {ls : List (List Int)} (h : RowV w B (.slice (some ⟨g, 0, none⟩) n cap) ls) : g < w.heap.size := by
  rcases h.own with ⟨h, _⟩ | ⟨g', cap', f, c, hv, _, _, _, h3, _⟩
  · simp at h
  · simp only [Value.slice.injEq, Option.some.injEq, Addr.mk.injEq, and_true] at hv
    rw [hv.1]; exact h3
theorem OwWs.wide {w : World} {lo lo' hi hi' : Nat} {v : Value} {ls : List (List Int)} (h : OwWs w lo hi v ls) (hl : lo' ≤ lo) (hh : hi ≤ hi') : OwWs w lo' hi' v ls := by
  rcases h with h | ⟨g, cap, f, c, hv, hc, h1, h2, h3, he, hx⟩
  · exact .inl h
  · exact .inr ⟨g, cap, f, c, hv, hc, by omega, by omega, h3, fun i hi => ⟨(he i hi).1.mono hl, Nat.lt_of_lt_of_le (he i hi).2.1 hh, (he i hi).2.2⟩, hx⟩
theorem RdI.block {w w' : World} {b off n cap : Nat} {zs : List Int} (h : RdI w (.slice (some ⟨b, off, none⟩) n cap) zs) (hb : w'.heap[b]? = w.heap[b]?) : RdI w' (.slice (some ⟨b, off, none⟩) n cap) zs := by
  obtain ⟨ao, cp, hv, hcp, hr⟩ := h
  refine ⟨ao, cp, hv, hcp, ?_⟩
  rcases hr with hr | ⟨b', off', hao, hc⟩
  · exact .inl hr
  · rw [hao] at hv
    simp only [Value.slice.injEq, Option.some.injEq, Addr.mk.injEq, and_true] at hv
    obtain ⟨⟨rfl, rfl⟩, _⟩ := hv
    exact .inr ⟨b, off, hao, fun i hi => by rw [World.cell?_of_block (w := w) hb]; exact hc i hi⟩
theorem SqI.put2 {w wr : World} {h1 h2 B : Nat} {W' C' : List Int} {acc : List (List Int)} {lv v2 : Value} {p q : Option Addr} {n m : Nat} (x1 : wr.cell? ⟨h1, 0, none⟩ = some (.slice p W'.length n)) (x2 : wr.cell? ⟨h2, 0, none⟩ = some v2) (y1 : wr.frozen? ⟨h1, 0, none⟩ = false) (y2 : wr.frozen? ⟨h2, 0, none⟩ = false) (hr : RowV wr B lv acc) (hb : Below w.heap.size w wr)
    (hne : h1 ≠ h2) (l2 : w.heap.size ≤ h2) (b2 : h2 < B)
    (hW : RdN wr h1 h2 (.slice p W'.length n) W') (hC : RdN wr h1 h2 (.slice q C'.length m) C') :
    SqI w h1 h2 B W' C' acc lv (wr.setCell ⟨h2, 0, none⟩ (.slice q C'.length m)) := by
  refine ⟨p, n, q, m, ?_, ?_, ?_, ?_, hW.set (.inr rfl) _, hC.set (.inr rfl) _, hr.setCell b2 _, Below.setCell hb (by simp only; omega) _⟩
  · rw [cellNe2 hne]; exact x1
  · exact World.cell?_setCell_same _ _ _ x2
  · rw [World.frozen?_setCell]; exact y1
  · rw [World.frozen?_setCell]; exact y2
/-- What holds at the head of the program's loop. -/
def SqJ (w : World) (h1 h2 : Nat) (F G : Option (List (List Int))) (g : Nat) (okv lv : Value) (wr : World) : Prop :=
  ∃ ok, okv = .bool ok ∧ ((ok = false ∧ F = none ∧ g = 0 ∧ (∃ gR m cR, lv = .slice (some ⟨gR, 0, none⟩) m cR) ∧ (∃ v1 v2, wr.cell? ⟨h1, 0, none⟩ = some v1 ∧ wr.cell? ⟨h2, 0, none⟩ = some v2) ∧ Below w.heap.size w wr) ∨
    (ok = true ∧ F = G ∧ ∃ W C acc, SqI w h1 h2 (h1 + 1) W C acc lv wr ∧ zeroB C = false ∧ sqZ W C acc = G ∧ sqM W C + 1 = g ∧ Vld W ∧ Vld C ∧ acc.length + sqM W C ≤ 40 ∧
      ∀ gR m cR ac nc p, lv = .slice (some ⟨gR, 0, none⟩) m cR → wr.cell? ⟨h2, 0, none⟩ = some (.slice (some p) ac nc) → p.block ≠ gR))

set_option maxRecDepth 100000 in
set_option maxHeartbeats 8000000 in
theorem SquareFree_impl (va : Value) (a : List Int) (w : World) (ha : RdI w va a) (hla : a.length ≤ 1099511627775) : Calls Try.prog 43 #[.agg #[va]] w (RetWs (sqfree a) w) := by
  have Ha := Lib.hid ha
  obtain ⟨aoa, ca, rfl⟩ := ha.shape
  clear ha
  replace hla : a.length ≤ 1099511627776 := by omega
  have x0 : (w.alloc (.cells #[.slice aoa a.length ca] 27)).cell? ⟨w.heap.size, 0, none⟩ = some (.slice aoa a.length ca) := by go_simp
  have Hbw := Lib.hid (show Below w.heap.size w (w.alloc (.cells #[.slice aoa a.length ca] 27)) by (repeat' (first | (with_reducible exact Below.refl _ _) | (with_reducible assumption) | (with_reducible refine Below.alloc ?_ ?_ _) | (with_reducible refine Below.setCell ?_ ?_ _) | (with_reducible refine Below.drew ?_) | (with_reducible refine Below.via (by assumption) ?_ ?_) | go_size)))
  cases hqa : validB a
  · have Ho := Lib.hid (show sqfree a = none by rw [sqfree, if_neg (by rw [hqa]; simp)])
    go_enter Try.func43, Try.ntmps43
    go_wp2_with fail
    (go_at_call 24; ((with_reducible refine (valid_impl _ a _ (Ha.out.below (by (repeat' (first | (with_reducible exact Below.refl _ _) | (with_reducible assumption) | (with_reducible refine Below.alloc ?_ ?_ _) | (with_reducible refine Below.setCell ?_ ?_ _) | (with_reducible refine Below.drew ?_) | (with_reducible refine Below.via (by assumption) ?_ ?_) | go_size)))) hla).mono ?_); rintro e w1 ⟨rfl, hb1⟩))
    replace x0 := (hb1.cell (p := ⟨w.heap.size, 0, none⟩) (World.block_lt_of_cell? _ _ x0)).trans x0
    replace Hbw := Lib.hid (Hbw.out.trans (hb1.mono Hbw.out.size))
    have zhb1 := hb1.size
    have lx0 := World.block_lt_of_cell? _ _ x0
    simp only at lx0
    clear hb1
    go_wp2_with fail
    go_ret2
    rw [Ho.out]
    exact ⟨_, rfl, .inl ⟨rfl, rfl⟩, by have h := Hbw.out; have h2 := h.size; (repeat' (first | (with_reducible exact Below.refl _ _) | (with_reducible assumption) | (with_reducible refine Below.alloc ?_ ?_ _) | (with_reducible refine Below.setCell ?_ ?_ _) | (with_reducible refine Below.drew ?_) | (with_reducible refine Below.via (by assumption) ?_ ?_) | go_size))⟩
  have Hva := Lib.hid (validB_iff.1 hqa)
  have hl17 := Hva.out.len
  by_cases h2 : a.length < 2
  · have Ho := Lib.hid (show sqfree a = none by rw [sqfree, if_neg (by rw [hqa]; simp; omega)])
    go_enter Try.func43, Try.ntmps43
    go_wp2_with fail
    (go_at_call 24; ((with_reducible refine (valid_impl _ a _ (Ha.out.below (by (repeat' (first | (with_reducible exact Below.refl _ _) | (with_reducible assumption) | (with_reducible refine Below.alloc ?_ ?_ _) | (with_reducible refine Below.setCell ?_ ?_ _) | (with_reducible refine Below.drew ?_) | (with_reducible refine Below.via (by assumption) ?_ ?_) | go_size)))) hla).mono ?_); rintro e w1 ⟨rfl, hb1⟩))
    replace x0 := (hb1.cell (p := ⟨w.heap.size, 0, none⟩) (World.block_lt_of_cell? _ _ x0)).trans x0
    replace Hbw := Lib.hid (Hbw.out.trans (hb1.mono Hbw.out.size))
    have zhb1 := hb1.size
    have lx0 := World.block_lt_of_cell? _ _ x0
    simp only at lx0
    clear hb1
    go_wp2_with fail
    (go_at_call 79; ((with_reducible refine (degree_exact aoa a.length ca _ (by omega)).mono ?_); rintro e w' ⟨rfl, rfl⟩))
    have h2' : (a.length : Int) - 1 < 1 := by omega
    go_wp2_with fail
    go_ret2
    rw [Ho.out]
    exact ⟨_, rfl, .inl ⟨rfl, rfl⟩, by have h := Hbw.out; have h2 := h.size; (repeat' (first | (with_reducible exact Below.refl _ _) | (with_reducible assumption) | (with_reducible refine Below.alloc ?_ ?_ _) | (with_reducible refine Below.setCell ?_ ?_ _) | (with_reducible refine Below.drew ?_) | (with_reducible refine Below.via (by assumption) ?_ ?_) | go_size))⟩
  have Ho0 := Lib.hid (show sqfree a = if (slopeR (sqQ a)).2 = true then
      if (commonW (sqQ a) (sqS a)).2 = true then
        if (quoR (sqQ a) (sqC0 a)).2 = true then sqZ (sqW0 a) (sqC0 a) [] else none
      else none
    else none by rw [sqfree, if_pos (by rw [hqa]; simp; omega)])
  have h2' : ¬ ((a.length : Int) - 1 < 1) := by omega
  have Hvq := Lib.hid (show Vld (sqQ a) from prim_vld Hva.out)
  have hlq := Hvq.out.len
  go_enter Try.func43, Try.ntmps43
  go_wp2_with fail
  (go_at_call 24; ((with_reducible refine (valid_impl _ a _ (Ha.out.below (by (repeat' (first | (with_reducible exact Below.refl _ _) | (with_reducible assumption) | (with_reducible refine Below.alloc ?_ ?_ _) | (with_reducible refine Below.setCell ?_ ?_ _) | (with_reducible refine Below.drew ?_) | (with_reducible refine Below.via (by assumption) ?_ ?_) | go_size)))) hla).mono ?_); rintro e w1 ⟨rfl, hb1⟩))
  replace x0 := (hb1.cell (p := ⟨w.heap.size, 0, none⟩) (World.block_lt_of_cell? _ _ x0)).trans x0
  replace Hbw := Lib.hid (Hbw.out.trans (hb1.mono Hbw.out.size))
  have zhb1 := hb1.size
  have lx0 := World.block_lt_of_cell? _ _ x0
  simp only at lx0
  clear hb1
  go_wp2_with fail
  (go_at_call 79; ((with_reducible refine (degree_exact aoa a.length ca _ (by omega)).mono ?_); rintro e w' ⟨rfl, rfl⟩))
  go_wp2_with fail
  clear hqa
  (go_at_call 102; ((with_reducible refine (prim_impl _ a _ (Ha.out.below (by have h := Hbw.out; have h2 := h.size; (repeat' (first | (with_reducible exact Below.refl _ _) | (with_reducible assumption) | (with_reducible refine Below.alloc ?_ ?_ _) | (with_reducible refine Below.setCell ?_ ?_ _) | (with_reducible refine Below.drew ?_) | (with_reducible refine Below.via (by assumption) ?_ ?_) | go_size)))) Hva.out.ne (by omega) Hva.out.bd).mono ?_); rintro e w2 ⟨v2, rfl, ho2, hb2⟩))
  have hb12 := (show Below w1.heap.size w1 w2 by (repeat' (first | (with_reducible exact Below.refl _ _) | (with_reducible assumption) | (with_reducible refine Below.alloc ?_ ?_ _) | (with_reducible refine Below.setCell ?_ ?_ _) | (with_reducible refine Below.drew ?_) | (with_reducible refine Below.via (by assumption) ?_ ?_) | go_size)))
  replace Hbw := Lib.hid (Hbw.out.trans (hb12.mono Hbw.out.size))
  have Hq := Lib.hid (show RdI w2 v2 (sqQ a) from ho2.rd)
  obtain ⟨p2, n2, hv2⟩ := Hq.out.shape
  subst hv2
  have hqq : (primZ a).length = (sqQ a).length := rfl
  clear ho2 hb2 hb12 x0 lx0 zhb1
  have HF1 := Lib.hid (show slopeR (sqQ a) = (sqS a, (slopeR (sqQ a)).2) from rfl)
  have HF2 := Lib.hid (show commonW (sqQ a) (sqS a) = (sqC0 a, (commonW (sqQ a) (sqS a)).2) from rfl)
  have HF3 := Lib.hid (show quoR (sqQ a) (sqC0 a) = (sqW0 a, (quoR (sqQ a) (sqC0 a)).2) from rfl)
  have hls : (sqS a).length ≤ 17 := by show (slopeR (sqQ a)).1.length ≤ 17; unfold slopeR; split; exact giveF_len _; simp
  have hlc : (sqC0 a).length ≤ 1048576 := commonW_len _ _
  generalize sqQ a = q at *
  generalize sqS a = s at *
  generalize sqC0 a = c0 at *
  generalize sqW0 a = w0 at *
  clear hqq
  go_wp2_with fail
  (go_at_call 29; ((with_reducible refine (SlopeWhole_impl _ q _ (Hq.out.below (by (repeat' (first | (with_reducible exact Below.refl _ _) | (with_reducible assumption) | (with_reducible refine Below.alloc ?_ ?_ _) | (with_reducible refine Below.setCell ?_ ?_ _) | (with_reducible refine Below.drew ?_) | (with_reducible refine Below.via (by assumption) ?_ ?_) | go_size)))) (by omega)).mono ?_); rintro e w3 ⟨v3, rfl, ho3, hb3⟩))
  rw [HF1.out] at ho3
  rw [HF1.out]
  have hb23 := (show Below w2.heap.size w2 w3 by (repeat' (first | (with_reducible exact Below.refl _ _) | (with_reducible assumption) | (with_reducible refine Below.alloc ?_ ?_ _) | (with_reducible refine Below.setCell ?_ ?_ _) | (with_reducible refine Below.drew ?_) | (with_reducible refine Below.via (by assumption) ?_ ?_) | go_size)))
  have x4 : w3.cell? ⟨w2.heap.size, 0, none⟩ = some (.slice p2 q.length n2) := (hb3.cell (p := ⟨w2.heap.size, 0, none⟩) (by simp)).trans (World.cell?_alloc_new w2 _ _ 0 : _)
  have z3 := hb23.size
  replace Hq := Lib.hid (Hq.out.below hb23)
  replace Hbw := Lib.hid (Hbw.out.trans (hb23.mono Hbw.out.size))
  have Hs := Lib.hid ho3
  obtain ⟨p3, n3, rfl⟩ := ho3.rd.shape
  clear ho3 hb3 hb23
  have l4 := World.block_lt_of_cell? _ _ x4
  simp only at l4
  generalize w2.heap.size = hq4 at *
  generalize (slopeR q).2 = okS at *
  cases okS
  · have Ho := Lib.hid (show sqfree a = none by rw [Ho0.out, if_neg (by simp)])
    go_wp2_with fail
    go_ret2
    rw [Ho.out]
    exact ⟨_, rfl, .inl ⟨rfl, rfl⟩, by have h := Hbw.out; have h2 := h.size; (repeat' (first | (with_reducible exact Below.refl _ _) | (with_reducible assumption) | (with_reducible refine Below.alloc ?_ ?_ _) | (with_reducible refine Below.setCell ?_ ?_ _) | (with_reducible refine Below.drew ?_) | (with_reducible refine Below.via (by assumption) ?_ ?_) | go_size))⟩
  simp only [if_true] at Ho0
  go_wp2_with fail
  (go_at_call 41; ((with_reducible refine (CommonWhole_impl _ _ q s _ (Hq.out.below (by (repeat' (first | (with_reducible exact Below.refl _ _) | (with_reducible assumption) | (with_reducible refine Below.alloc ?_ ?_ _) | (with_reducible refine Below.setCell ?_ ?_ _) | (with_reducible refine Below.drew ?_) | (with_reducible refine Below.via (by assumption) ?_ ?_) | go_size)))) (Hs.out.rd.below (by (repeat' (first | (with_reducible exact Below.refl _ _) | (with_reducible assumption) | (with_reducible refine Below.alloc ?_ ?_ _) | (with_reducible refine Below.setCell ?_ ?_ _) | (with_reducible refine Below.drew ?_) | (with_reducible refine Below.via (by assumption) ?_ ?_) | go_size)))) (by omega) (by omega)).mono ?_); rintro e w4 ⟨v4, rfl, ho4, hb4⟩))
  rw [HF2.out] at ho4
  rw [HF2.out]
  have hb34 := (show Below w3.heap.size w3 w4 by (repeat' (first | (with_reducible exact Below.refl _ _) | (with_reducible assumption) | (with_reducible refine Below.alloc ?_ ?_ _) | (with_reducible refine Below.setCell ?_ ?_ _) | (with_reducible refine Below.drew ?_) | (with_reducible refine Below.via (by assumption) ?_ ?_) | go_size)))
  replace x4 := (hb34.cell (p := ⟨hq4, 0, none⟩) (World.block_lt_of_cell? _ _ x4)).trans x4
  replace Hq := Lib.hid (Hq.out.below hb34)
  replace Hbw := Lib.hid (Hbw.out.trans (hb34.mono Hbw.out.size))
  have zhb34 := hb34.size
  have lx4 := World.block_lt_of_cell? _ _ x4
  simp only at lx4
  have Hc := Lib.hid ho4
  obtain ⟨p4, n4, rfl⟩ := ho4.rd.shape
  clear ho4 hb4 hb34 l4
  generalize (commonW q s).2 = okC at *
  cases okC
  · have Ho := Lib.hid (show sqfree a = none by rw [Ho0.out, if_neg (by simp)])
    go_wp2_with fail
    go_ret2
    rw [Ho.out]
    exact ⟨_, rfl, .inl ⟨rfl, rfl⟩, by have h := Hbw.out; have h2 := h.size; (repeat' (first | (with_reducible exact Below.refl _ _) | (with_reducible assumption) | (with_reducible refine Below.alloc ?_ ?_ _) | (with_reducible refine Below.setCell ?_ ?_ _) | (with_reducible refine Below.drew ?_) | (with_reducible refine Below.via (by assumption) ?_ ?_) | go_size))⟩
  simp only [if_true] at Ho0
  go_wp2_with fail
  (go_at_call 21; ((with_reducible refine (ExactQuotient_impl _ _ q c0 _ (Hq.out.below (by (repeat' (first | (with_reducible exact Below.refl _ _) | (with_reducible assumption) | (with_reducible refine Below.alloc ?_ ?_ _) | (with_reducible refine Below.setCell ?_ ?_ _) | (with_reducible refine Below.drew ?_) | (with_reducible refine Below.via (by assumption) ?_ ?_) | go_size)))) (Hc.out.rd.below (by (repeat' (first | (with_reducible exact Below.refl _ _) | (with_reducible assumption) | (with_reducible refine Below.alloc ?_ ?_ _) | (with_reducible refine Below.setCell ?_ ?_ _) | (with_reducible refine Below.drew ?_) | (with_reducible refine Below.via (by assumption) ?_ ?_) | go_size)))) (by omega) (by omega)).mono ?_); rintro e w5 ⟨v5, rfl, ho5, hb5⟩))
  rw [HF3.out] at ho5
  rw [HF3.out]
  have hb45 := (show Below w4.heap.size w4 w5 by (repeat' (first | (with_reducible exact Below.refl _ _) | (with_reducible assumption) | (with_reducible refine Below.alloc ?_ ?_ _) | (with_reducible refine Below.setCell ?_ ?_ _) | (with_reducible refine Below.drew ?_) | (with_reducible refine Below.via (by assumption) ?_ ?_) | go_size)))
  have x8 : w5.cell? ⟨w4.heap.size, 0, none⟩ = some (.slice p4 c0.length n4) := (hb5.cell (p := ⟨w4.heap.size, 0, none⟩) (by simp)).trans (World.cell?_alloc_new w4 _ _ 0 : _)
  have y8 : w5.frozen? ⟨w4.heap.size, 0, none⟩ = false := (hb5.frozen (p := ⟨w4.heap.size, 0, none⟩) (by simp)).trans (by go_simp)
  have RC := Lib.hid (show RdN w5 w5.heap.size w4.heap.size (.slice p4 c0.length n4) c0 from (RdN.ofOw Hc.out (.inr (by have := hb45.size; omega)) (.inr (Nat.le_refl _))).below hb45)
  have RW := Lib.hid (show RdN w5 w5.heap.size w4.heap.size v5 w0 from RdN.ofOw ho5 (.inr (Nat.le_refl _)) (.inl (by simp)))
  have hCb := Lib.hid (Hc.out.blk)
  have z4 := Hbw.out.size
  replace Hbw := Lib.hid (Hbw.out.trans (hb45.mono Hbw.out.size))
  have z5 := hb45.size
  obtain ⟨p5, n5, rfl⟩ := ho5.rd.shape
  have l8 := World.block_lt_of_cell? _ _ x8
  simp only at l8
  clear ho5 hb5 hb45 x4 Hq Hc
  generalize hokW : (quoR q c0).2 = okW at *
  have Hq3 := Lib.hid (fun (h : okW = true) => quoR_true (a := q) (b := c0) (o := w0) (by rw [HF3.out, h]))
  have HW0 := Lib.hid (fun (h : okW = true) => show sqfree a = sqZ w0 c0 [] by rw [Ho0.out, if_pos h])
  have HW1 := Lib.hid (fun (h : okW = false) => show sqfree a = none by rw [Ho0.out, if_neg (by rw [h]; simp)])
  clear hokW HF1 HF2 HF3 Ho0
  go_wp2_with fail
  have S0 : ∀ wl : World, wl = ((w5.alloc (.cells #[.slice p5 w0.length n5] 27)).alloc (.cells #[] 27)) → SqJ w w5.heap.size w4.heap.size (sqfree a) (sqZ w0 c0 []) (if okW then sqM w0 c0 + 1 else 0) (.bool okW) (.slice (some ⟨w5.heap.size + 1, 0, none⟩) 0 0) wl := by
    rintro wl rfl
    refine ⟨okW, rfl, ?_⟩
    cases hk : okW
    · exact .inl ⟨rfl, HW1.out hk, rfl, ⟨_, _, _, rfl⟩, ⟨.slice p5 w0.length n5, .slice p4 c0.length n4, by go_simp, by go_simp⟩, by have h := Hbw.out; (repeat' (first | (with_reducible exact Below.refl _ _) | (with_reducible assumption) | (with_reducible refine Below.alloc ?_ ?_ _) | (with_reducible refine Below.setCell ?_ ?_ _) | (with_reducible refine Below.drew ?_) | (with_reducible refine Below.via (by assumption) ?_ ?_) | go_size))⟩
    · obtain ⟨_, hvc, hzc, hvw, _⟩ := Hq3.out hk
      have h40 : sqM w0 c0 ≤ 40 := by have := hvc.len; have := hvw.len; unfold sqM; split <;> omega
      refine .inr ⟨rfl, HW0.out hk, w0, c0, [], ⟨_, _, _, _, by go_simp, by go_simp, by go_simp, by go_simp, (RW.out.below (by (repeat' (first | (with_reducible exact Below.refl _ _) | (with_reducible assumption) | (with_reducible refine Below.alloc ?_ ?_ _) | (with_reducible refine Below.setCell ?_ ?_ _) | (with_reducible refine Below.drew ?_) | (with_reducible refine Below.via (by assumption) ?_ ?_) | go_size)))), (RC.out.below (by (repeat' (first | (with_reducible exact Below.refl _ _) | (with_reducible assumption) | (with_reducible refine Below.alloc ?_ ?_ _) | (with_reducible refine Below.setCell ?_ ?_ _) | (with_reducible refine Below.drew ?_) | (with_reducible refine Below.via (by assumption) ?_ ?_) | go_size)))), RowV.empty (by simp) (Nat.le_refl _), by have h := Hbw.out; (repeat' (first | (with_reducible exact Below.refl _ _) | (with_reducible assumption) | (with_reducible refine Below.alloc ?_ ?_ _) | (with_reducible refine Below.setCell ?_ ?_ _) | (with_reducible refine Below.drew ?_) | (with_reducible refine Below.via (by assumption) ?_ ?_) | go_size))⟩, hzc, rfl, rfl, hvw, hvc, by simpa using h40, ?_⟩
      have hx : ((w5.alloc (.cells #[.slice p5 w0.length n5] 27)).alloc (.cells #[] 27)).cell? ⟨w4.heap.size, 0, none⟩ = some (.slice p4 c0.length n4) := by go_simp
      intro gR m cR ac nc p hlv hcell
      simp only [Value.slice.injEq, Option.some.injEq, Addr.mk.injEq, and_true] at hlv
      have hlv2 := hlv.1
      clear hlv
      rw [hx] at hcell
      simp only [Option.some.injEq, Value.slice.injEq] at hcell
      have h3 := hCb.out p _ _ (by rw [hcell.1])
      omega
  have HS0 := Lib.hid S0
  clear S0 x8 y8 RW RC hCb Hq3
  generalize hh1 : w5.heap.size = h1 at *
  generalize hh2 : w4.heap.size = h2 at *
  have hbh : w.heap.size ≤ h1 ∧ w.heap.size ≤ h2 ∧ h2 < h1 := by omega
  obtain ⟨hbh1, hbh2, hbh3⟩ := hbh
  have hne1 : ¬ (h1 = h2) := by omega
  have hne2 : ¬ (h2 = h1) := by omega
  clear z5 z4 zhb34 z3 l8 hh1 hh2 h2'
  go_loopg [6, 10] (if okW then sqM w0 c0 + 1 else 0) (fun g okv lv wr => SqJ w h1 h2 (sqfree a) (sqZ w0 c0 []) g okv lv wr)
  case atStart => exact HS0.out _ rfl
  case round =>
    generalize sqZ w0 c0 [] = G at *
    clear HW0 HW1 HS0
    obtain ⟨ok, rfl, hcase⟩ := hrel
    rcases hcase with ⟨rfl, hF, hg0, ⟨gR, mR, cR, rfl⟩, ⟨v1, v2, e1, e2⟩, hb0⟩ | ⟨rfl, hFG, W, C, acc, hS, hzC, hsq, hme, hvW, hvC, hal, hgC⟩
    · have Ho := Lib.hid hF
      have Hb0 := Lib.hid hb0
      clear hF hg0 hb0 e1 e2
      go_wp2_with fail
      go_ret2
      rw [Ho.out]
      exact ⟨_, rfl, .inl ⟨rfl, rfl⟩, Hb0.out⟩
    have HFG := Lib.hid hFG
    have Hsq := Lib.hid hsq
    have Hme := Lib.hid hme
    have HzC := Lib.hid hzC
    have HvW := Lib.hid hvW
    have HvC := Lib.hid hvC
    have HgC := Lib.hid hgC
    obtain ⟨aw, nw, ac, nc, x1, x2, y1, y2, rW, rC, rR, hb0⟩ := hS
    have RW := Lib.hid rW
    have RC := Lib.hid rC
    have RR := Lib.hid rR
    have hlW := hvW.len
    have hlC := hvC.len
    obtain ⟨gR, cR, rfl⟩ := rR.shape
    have lgR := rR.lt
    obtain ⟨bC, oC, cC2, hCe, hbC, _⟩ := rC.rd.open hvC.ne
    simp only [Value.slice.injEq, true_and] at hCe
    obtain ⟨rfl, rfl⟩ := hCe
    have nbC : bC ≠ gR := hgC gR _ _ _ _ _ rfl x2
    have nbC2 := rC.2 _ _ _ rfl
    simp only at nbC2
    have s1 := World.block_lt_of_cell? _ _ x1
    have s2 := World.block_lt_of_cell? _ _ x2
    simp only at s1 s2
    replace Hbw := Lib.hid hb0
    have sw := hb0.size
    clear hFG hsq hme hzC hvW hvC rW rC rR hb0 hgC
    by_cases hw1 : W.length ≤ 1
    · have Ho := Lib.hid (show sqfree a = some acc by rw [HFG.out, ← Hsq.out, sqZ_stop hw1])
      have hw2 : ¬ ((1 : Int) ≤ (W.length : Int) - 1) := by omega
      go_wp2_with fail
      (go_at_call 79; ((with_reducible refine (degree_exact aw W.length nw _ (by omega)).mono ?_); rintro e w' ⟨rfl, rfl⟩))
      go_wp2_with fail
      go_ret2
      rw [Ho.out]
      exact ⟨_, rfl, (RR.out.own.below ((Below.refl _ _).alloc (Nat.le_refl _) _)).wide (by omega) (by simp), by have h := Hbw.out; (repeat' (first | (with_reducible exact Below.refl _ _) | (with_reducible assumption) | (with_reducible refine Below.alloc ?_ ?_ _) | (with_reducible refine Below.setCell ?_ ?_ _) | (with_reducible refine Below.drew ?_) | (with_reducible refine Below.via (by assumption) ?_ ?_) | go_size))⟩
    · have hw2 : (1 : Int) ≤ (W.length : Int) - 1 := by omega
      have Hno := Lib.hid (fun h => show sqfree a = none by rw [HFG.out, ← Hsq.out, sqZ_none hw1 h])
      have Hst := Lib.hid (fun h => sq_step hw1 HzC.out h)
      have Hgo := Lib.hid (fun h => show sqZ (sqY W C) (sqC W C) (acc ++ [sqP W C]) = G by rw [← sqZ_go hw1 HzC.out h]; exact Hsq.out)
      have HY := Lib.hid (show commonW W C = (sqY W C, (commonW W C).2) from rfl)
      have HP := Lib.hid (show quoR W (sqY W C) = (sqP W C, (quoR W (sqY W C)).2) from rfl)
      have HC := Lib.hid (show quoR C (sqY W C) = (sqC W C, (quoR C (sqY W C)).2) from rfl)
      have Hok := Lib.hid (show sqOk W C = ((commonW W C).2 && (quoR W (sqY W C)).2 && (quoR C (sqY W C)).2) from rfl)
      have hly : (sqY W C).length ≤ 1048576 := commonW_len _ _
      have Hyv := Lib.hid (fun (h : (commonW W C).2 = true) => (commonW_true (a := W) (b := C) (y := sqY W C) (by rw [sqY, ← h])).2.2)
      have Hpv := Lib.hid (fun (h : (quoR W (sqY W C)).2 = true) => (quoR_true (a := W) (b := sqY W C) (o := sqP W C) (by rw [sqP, ← h])).2.2.2.1)
      generalize sqOk W C = okA at *
      generalize sqY W C = Y at *
      generalize sqP W C = P at *
      generalize sqC W C = C2 at *
      go_wp2_with fail
      (go_at_call 79; ((with_reducible refine (degree_exact aw W.length nw _ (by omega)).mono ?_); rintro e w' ⟨rfl, rfl⟩))
      go_wp2_with fail
      (go_at_call 41; ((with_reducible refine (CommonWhole_impl _ _ W C _ (RW.out.rd.below (by (repeat' (first | (with_reducible exact Below.refl _ _) | (with_reducible assumption) | (with_reducible refine Below.alloc ?_ ?_ _) | (with_reducible refine Below.setCell ?_ ?_ _) | (with_reducible refine Below.drew ?_) | (with_reducible refine Below.via (by assumption) ?_ ?_) | go_size)))) (RC.out.rd.below (by (repeat' (first | (with_reducible exact Below.refl _ _) | (with_reducible assumption) | (with_reducible refine Below.alloc ?_ ?_ _) | (with_reducible refine Below.setCell ?_ ?_ _) | (with_reducible refine Below.drew ?_) | (with_reducible refine Below.via (by assumption) ?_ ?_) | go_size)))) (by omega) (by omega)).mono ?_); rintro e w6 ⟨v6, rfl, o6, d6'⟩))
      rw [HY.out] at o6
      rw [HY.out]
      have d6 := (show Below wr.heap.size wr w6 by (repeat' (first | (with_reducible exact Below.refl _ _) | (with_reducible assumption) | (with_reducible refine Below.alloc ?_ ?_ _) | (with_reducible refine Below.setCell ?_ ?_ _) | (with_reducible refine Below.drew ?_) | (with_reducible refine Below.via (by assumption) ?_ ?_) | go_size)))
      replace x1 := (d6.cell (p := ⟨h1, 0, none⟩) (World.block_lt_of_cell? _ _ x1)).trans x1
      replace x2 := (d6.cell (p := ⟨h2, 0, none⟩) (World.block_lt_of_cell? _ _ x2)).trans x2
      replace RW := Lib.hid (RW.out.below d6)
      replace RC := Lib.hid (RC.out.below d6)
      replace Hbw := Lib.hid (Hbw.out.trans (d6.mono Hbw.out.size))
      have zd6 := d6.size
      have lx1 := World.block_lt_of_cell? _ _ x1
      simp only at lx1
      have lx2 := World.block_lt_of_cell? _ _ x2
      simp only at lx2
      replace y1 := (d6.frozen (p := ⟨h1, 0, none⟩) s1).trans y1
      replace y2 := (d6.frozen (p := ⟨h2, 0, none⟩) s2).trans y2
      have O6 := Lib.hid o6
      have hB6a : wr.heap.size ≤ (wr.alloc (.cells #[.slice aw W.length nw] 27)).heap.size := by simp
      obtain ⟨p6, n6, rfl⟩ := o6.rd.shape
      have Hwr := Lib.hid d6
      clear d6 d6' o6
      generalize hok1 : (commonW W C).2 = ok1 at *
      have Hok1 := Lib.hid hok1
      clear hok1
      cases ok1
      · have Ho := Lib.hid (Hno.out (by rw [Hok.out]; rfl))
        go_wp2_with fail
        go_ret2
        rw [Ho.out]
        exact ⟨_, rfl, .inl ⟨rfl, rfl⟩, by have h := Hbw.out; have h2 := h.size; (repeat' (first | (with_reducible exact Below.refl _ _) | (with_reducible assumption) | (with_reducible refine Below.alloc ?_ ?_ _) | (with_reducible refine Below.setCell ?_ ?_ _) | (with_reducible refine Below.drew ?_) | (with_reducible refine Below.via (by assumption) ?_ ?_) | go_size))⟩
      have hvY : Vld Y := by
        obtain ⟨_, _, _, h⟩ := Hyv.out rfl
        exact h
      obtain ⟨gy, cy, he6, hB6, hs6, _, _, _⟩ := O6.out.open hvY.ne
      simp only [Value.slice.injEq, true_and] at he6
      obtain ⟨rfl, rfl⟩ := he6
      go_wp2_with fail
      (go_at_call 21; ((with_reducible refine (ExactQuotient_impl _ _ W Y _ (RW.out.rd.below (by (repeat' (first | (with_reducible exact Below.refl _ _) | (with_reducible assumption) | (with_reducible refine Below.alloc ?_ ?_ _) | (with_reducible refine Below.setCell ?_ ?_ _) | (with_reducible refine Below.drew ?_) | (with_reducible refine Below.via (by assumption) ?_ ?_) | go_size)))) (O6.out.rd.below (by (repeat' (first | (with_reducible exact Below.refl _ _) | (with_reducible assumption) | (with_reducible refine Below.alloc ?_ ?_ _) | (with_reducible refine Below.setCell ?_ ?_ _) | (with_reducible refine Below.drew ?_) | (with_reducible refine Below.via (by assumption) ?_ ?_) | go_size)))) (by omega) (by omega)).mono ?_); rintro e w7 ⟨v7, rfl, o7, d7⟩))
      rw [HP.out] at o7
      rw [HP.out]
      have d67 := (show Below w6.heap.size w6 w7 by (repeat' (first | (with_reducible exact Below.refl _ _) | (with_reducible assumption) | (with_reducible refine Below.alloc ?_ ?_ _) | (with_reducible refine Below.setCell ?_ ?_ _) | (with_reducible refine Below.drew ?_) | (with_reducible refine Below.via (by assumption) ?_ ?_) | go_size)))
      have x6 : w7.cell? ⟨w6.heap.size, 0, none⟩ = some (.slice (some ⟨gy, 0, none⟩) Y.length n6) := (d7.cell (p := ⟨w6.heap.size, 0, none⟩) (by simp)).trans (World.cell?_alloc_new w6 _ _ 0 : _)
      have O6b := Lib.hid (O6.out.below d67)
      replace Hwr := Lib.hid (Hwr.out.trans (d67.mono (by omega)))
      replace y1 := (d67.frozen (p := ⟨h1, 0, none⟩) lx1).trans y1
      replace y2 := (d67.frozen (p := ⟨h2, 0, none⟩) lx2).trans y2
      clear lx1 lx2
      replace x1 := (d67.cell (p := ⟨h1, 0, none⟩) (World.block_lt_of_cell? _ _ x1)).trans x1
      replace x2 := (d67.cell (p := ⟨h2, 0, none⟩) (World.block_lt_of_cell? _ _ x2)).trans x2
      replace RC := Lib.hid (RC.out.below d67)
      replace Hbw := Lib.hid (Hbw.out.trans (d67.mono Hbw.out.size))
      have zd67 := d67.size
      have lx1 := World.block_lt_of_cell? _ _ x1
      simp only at lx1
      have lx2 := World.block_lt_of_cell? _ _ x2
      simp only at lx2
      have l6 := World.block_lt_of_cell? _ _ x6
      simp only at l6
      have O7 := Lib.hid o7
      obtain ⟨p7, n7, rfl⟩ := o7.rd.shape
      clear d7 d67 o7 O6
      generalize hok2 : (quoR W Y).2 = ok2 at *
      have Hok2 := Lib.hid hok2
      clear hok2
      cases ok2
      · have Ho := Lib.hid (Hno.out (by rw [Hok.out]; rfl))
        go_wp2_with fail
        go_ret2
        rw [Ho.out]
        exact ⟨_, rfl, .inl ⟨rfl, rfl⟩, by have h := Hbw.out; have h2 := h.size; (repeat' (first | (with_reducible exact Below.refl _ _) | (with_reducible assumption) | (with_reducible refine Below.alloc ?_ ?_ _) | (with_reducible refine Below.setCell ?_ ?_ _) | (with_reducible refine Below.drew ?_) | (with_reducible refine Below.via (by assumption) ?_ ?_) | go_size))⟩
      have hvP := Hpv.out rfl
      obtain ⟨gp, cp, he7, hB7, hs7, _, _, _⟩ := O7.out.open hvP.ne
      simp only [Value.slice.injEq, true_and] at he7
      obtain ⟨rfl, rfl⟩ := he7
      (try simp only [World.size_alloc] at hB7 hB6)
      have hacc : acc.length ≤ 1048576 := by omega
      have dW : Below w7.heap.size w7 (w7.alloc (.cells #[.slice (some ⟨gp, 0, none⟩) P.length n7] 27)) := by (repeat' (first | (with_reducible exact Below.refl _ _) | (with_reducible assumption) | (with_reducible refine Below.alloc ?_ ?_ _) | (with_reducible refine Below.setCell ?_ ?_ _) | (with_reducible refine Below.drew ?_) | (with_reducible refine Below.via (by assumption) ?_ ?_) | go_size))
      have Hpush := Lib.hid (fun (w9 : World) (hb9 : Below (h1 + 1) (w7.alloc (.cells #[.slice (some ⟨gp, 0, none⟩) P.length n7] 27)) w9) (hk9 : ∀ k, k < ((w7.alloc (.cells #[.slice (some ⟨gp, 0, none⟩) P.length n7] 27))).heap.size → Value.ownBlock (.slice (some ⟨gR, 0, none⟩) acc.length cR) ≠ some k → w9.heap[k]? = ((w7.alloc (.cells #[.slice (some ⟨gp, 0, none⟩) P.length n7] 27))).heap[k]?) =>
        (show w9.cell? ⟨h1, 0, none⟩ = some (.slice aw W.length nw) ∧ w9.cell? ⟨h2, 0, none⟩ = some (.slice (some ⟨bC, oC, none⟩) C.length nc) ∧ w9.frozen? ⟨h1, 0, none⟩ = false ∧ w9.frozen? ⟨h2, 0, none⟩ = false ∧
            w9.cell? ⟨w6.heap.size, 0, none⟩ = some (.slice (some ⟨gy, 0, none⟩) Y.length n6) ∧
            RdN w9 h1 h2 (.slice (some ⟨gy, 0, none⟩) Y.length n6) Y ∧ RdN w9 h1 h2 (.slice (some ⟨bC, oC, none⟩) C.length nc) C ∧ Below w.heap.size w w9 ∧ w7.heap.size < w9.heap.size from by
          have hsW : ((w7.alloc (.cells #[.slice (some ⟨gp, 0, none⟩) P.length n7] 27))).heap.size = w7.heap.size + 1 := by simp
          have hs9 := hb9.size
          have hk : ∀ k, k < ((w7.alloc (.cells #[.slice (some ⟨gp, 0, none⟩) P.length n7] 27))).heap.size → k ≠ gR → w9.heap[k]? = ((w7.alloc (.cells #[.slice (some ⟨gp, 0, none⟩) P.length n7] 27))).heap[k]? := fun k h1 h2 => hk9 k h1 (by simp only [Value.ownBlock, ne_eq, Option.some.injEq]; omega)
          have q1 : w9.heap[gy]? = ((w7.alloc (.cells #[.slice (some ⟨gp, 0, none⟩) P.length n7] 27))).heap[gy]? := hk gy (by omega) (by omega)
          have q2 : w9.heap[bC]? = ((w7.alloc (.cells #[.slice (some ⟨gp, 0, none⟩) P.length n7] 27))).heap[bC]? := hk bC (by omega) nbC
          refine ⟨(hb9.cell (p := ⟨h1, 0, none⟩) (by simp only; omega)).trans ((dW.cell (p := ⟨h1, 0, none⟩) lx1).trans x1), (hb9.cell (p := ⟨h2, 0, none⟩) (by simp only; omega)).trans ((dW.cell (p := ⟨h2, 0, none⟩) lx2).trans x2),
            (hb9.frozen (p := ⟨h1, 0, none⟩) (by simp only; omega)).trans ((dW.frozen (p := ⟨h1, 0, none⟩) lx1).trans y1), (hb9.frozen (p := ⟨h2, 0, none⟩) (by simp only; omega)).trans ((dW.frozen (p := ⟨h2, 0, none⟩) lx2).trans y2),
            ?_, RdN.ofOw (B := wr.heap.size) (((O6b.out.below dW).block q1).mono hB6a) (.inl (by omega)) (.inl (by omega)), ⟨((RC.out.rd.below dW).block q2), RC.out.2⟩, ?_, by omega⟩
          · rw [World.cell?_of_block (w := (w7.alloc (.cells #[.slice (some ⟨gp, 0, none⟩) P.length n7] 27))) (hk _ (by simp only; omega) (by simp only; omega))]
            exact (dW.cell (p := ⟨w6.heap.size, 0, none⟩) l6).trans x6
          · have h := Hbw.out
            exact (h.trans (dW.mono (by omega))).trans (hb9.mono (by omega))))
      go_wp2_with (at_builtin; go_must (refine wpList_pushW2 RR.out (by have h := Hwr.out; (repeat' (first | (with_reducible exact Below.refl _ _) | (with_reducible assumption) | (with_reducible refine Below.alloc ?_ ?_ _) | (with_reducible refine Below.setCell ?_ ?_ _) | (with_reducible refine Below.drew ?_) | (with_reducible refine Below.via (by assumption) ?_ ?_) | go_size))) (show wr.heap.size ≤ gp by omega) ((O7.out.mono (by simp only [World.size_alloc]; omega)).below (by (repeat' (first | (with_reducible exact Below.refl _ _) | (with_reducible assumption) | (with_reducible refine Below.alloc ?_ ?_ _) | (with_reducible refine Below.setCell ?_ ?_ _) | (with_reducible refine Below.drew ?_) | (with_reducible refine Below.via (by assumption) ?_ ?_) | go_size)))) rfl _ _ rfl wholeS_under hacc (by simp; omega) rfl rfl (by simp) ?_); go_must (intro v9 w9 hr9 hb9 hk9; obtain ⟨e1, e2, f1, f2, e6, rY, rC, bw, sz9⟩ := Hpush.out w9 hb9 hk9; have Hr9 := Lib.hid hr9; have RY := Lib.hid rY; have RC9 := Lib.hid rC; have Bw := Lib.hid bw; have k1 : h1 < w9.heap.size := (by omega); have k2 : h2 < w9.heap.size := (by omega); have k6 : w6.heap.size < w9.heap.size := (by omega); have nn1 : ¬ (w6.heap.size = h1) := (by omega); have nn2 : ¬ (h1 = w6.heap.size) := (by omega); clear hr9 rY rC bw hb9 hk9 x1 x2 x6 y1 y2 dW))
      obtain ⟨g9, c9, rfl⟩ := Hr9.out.shape
      have lg9 := Hr9.out.lt
      generalize hw10 : World.setCell _ _ _ = w10
      have E1 : w10.cell? ⟨h1, 0, none⟩ = some (.slice (some ⟨gy, 0, none⟩) Y.length n6) := by rw [← hw10]; exact World.cell?_setCell_same _ _ _ e1
      have E2 : w10.cell? ⟨h2, 0, none⟩ = some (.slice (some ⟨bC, oC, none⟩) C.length nc) := by rw [← hw10, cellNe2 hne2]; exact e2
      have F1 : w10.frozen? ⟨h1, 0, none⟩ = false := by rw [← hw10, World.frozen?_setCell]; exact f1
      have F2 : w10.frozen? ⟨h2, 0, none⟩ = false := by rw [← hw10, World.frozen?_setCell]; exact f2
      replace RY := Lib.hid (show RdN w10 h1 h2 (.slice (some ⟨gy, 0, none⟩) Y.length n6) Y by rw [← hw10]; exact RY.out.set (.inl rfl) _)
      replace RC9 := Lib.hid (show RdN w10 h1 h2 (.slice (some ⟨bC, oC, none⟩) C.length nc) C by rw [← hw10]; exact RC9.out.set (.inl rfl) _)
      replace Hr9 := Lib.hid (show RowV w10 (h1 + 1) (.slice (some ⟨g9, 0, none⟩) (acc ++ [P]).length c9) (acc ++ [P]) by rw [← hw10]; exact Hr9.out.setCell (by simp only; omega) _)
      replace Bw := Lib.hid (show Below w.heap.size w w10 by rw [← hw10]; exact Below.setCell Bw.out (by simp only; omega) _)
      have hs10 : w10.heap.size = w9.heap.size := by rw [← hw10, World.size_setCell]
      have lg10 : g9 < w10.heap.size := by omega
      have j1 : h1 < w10.heap.size := by omega
      have j2 : h2 < w10.heap.size := by omega
      clear hw10 e1 e2 f1 f2 e6 hs10 lg9
      (go_at_call 21; ((with_reducible refine (ExactQuotient_impl _ _ C Y w10 RC9.out.rd RY.out.rd (by omega) (by omega)).mono ?_); rintro e w11 ⟨v11, rfl, o11, d11⟩))
      rw [HC.out] at o11
      rw [HC.out]
      replace E1 := (d11.cell (p := ⟨h1, 0, none⟩) j1).trans E1
      replace E2 := (d11.cell (p := ⟨h2, 0, none⟩) j2).trans E2
      replace F1 := (d11.frozen (p := ⟨h1, 0, none⟩) j1).trans F1
      replace F2 := (d11.frozen (p := ⟨h2, 0, none⟩) j2).trans F2
      replace RY := Lib.hid (RY.out.below d11)
      replace Hr9 := Lib.hid (Hr9.out.below d11)
      replace Bw := Lib.hid (Bw.out.trans (d11.mono Bw.out.size))
      have O11 := Lib.hid o11
      have z11 := d11.size
      obtain ⟨p11, n11, rfl⟩ := o11.rd.shape
      have i1 : h1 < w11.heap.size := by omega
      have i2 : h2 < w11.heap.size := by omega
      generalize hok3 : (quoR C Y).2 = ok3 at *
      have Hok3 := Lib.hid (show okA = ok3 by rw [Hok.out]; simp)
      clear d11 o11 hok3 Hok RC9
      go_wp2_with fail
      go_roundg (if ok3 then sqM Y C2 + 1 else 0)
      case measure =>
        have h := Hme.out
        cases ok3
        · simp; omega
        · have h2 := (Hst.out Hok3.out).1
          simp; omega
      case rel =>
        refine ⟨ok3, rfl, ?_⟩
        cases hk3 : ok3
        · refine .inl ⟨rfl, Hno.out (Hok3.out.trans hk3), rfl, ⟨_, _, _, rfl⟩, ⟨_, _, by rw [cellNe2 hne1]; exact E1, World.cell?_setCell_same _ _ _ E2⟩, Below.setCell Bw.out (by simp only; omega) _⟩
        · have h := Hst.out (Hok3.out.trans hk3)
          have hg := Hgo.out (Hok3.out.trans hk3)
          have hm := Hme.out
          refine .inr ⟨rfl, HFG.out, Y, C2, acc ++ [P], SqI.put2 E1 E2 F1 F2 (by have h9 := Hr9.out; rw [List.length_append, List.length_singleton] at h9; exact h9) Bw.out hne1 hbh2 (by omega) RY.out (RdN.ofOw O11.out (.inl j1) (.inl j2)), h.2.2.2.1, hg, rfl, h.2.1, h.2.2.1, by rw [List.length_append, List.length_singleton]; omega, ?_⟩
          have hx : (w11.setCell ⟨h2, 0, none⟩ (.slice p11 C2.length n11)).cell? ⟨h2, 0, none⟩ = some (.slice p11 C2.length n11) := World.cell?_setCell_same _ _ _ E2
          intro gR' m' cR' ac' nc' p' hlv hcell
          simp only [Value.slice.injEq, Option.some.injEq, Addr.mk.injEq, and_true] at hlv
          have hlv2 := hlv.1
          rw [hx] at hcell
          simp only [Option.some.injEq, Value.slice.injEq] at hcell
          have h3 := (O11.out.blk p' _ _ (by rw [hcell.1])).1
          omega

end Go.Proofs.Ytlnjkjogedbhfaa
