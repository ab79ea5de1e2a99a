/- SquareFree of the reference. Conditions: lengths of at most 2^40. -/
import Derived.Test.YtlnjkjogedbhfaaI32
import Derived.Test.YtlnjkjogedbhfaaIWs
import Derived.Deep.DeepMust
namespace Go.Proofs.Ytlnjkjogedbhfaa
open Go Go.RowKit
set_option linter.unusedSimpArgs false
set_option linter.unusedVariables false

theorem OwI.blk {w : World} {B : Nat} {v : Value} {zs : List Int} (h : OwI w B v zs) : ∀ p n c, v = .slice (some p) n c → B ≤ p.block ∧ p.block < w.heap.size := by
  intro p n c hv
  rcases h with ⟨h, _⟩ | ⟨g, cap, cur, h1, h2, h3, _⟩
  · rw [h] at hv; simp at hv
  · rw [h1] at hv
    simp only [Value.slice.injEq, Option.some.injEq] at hv
    rw [← hv.1]
    exact ⟨h2, (Array.getElem?_eq_some_iff.1 h3).1⟩
/-- A list that is read, which lies in neither of two blocks. -/
def RdN (w : World) (h1 h2 : Nat) (v : Value) (zs : List Int) : Prop := RdI w v zs ∧ ∀ p n c, v = .slice (some p) n c → p.block ≠ h1 ∧ p.block ≠ h2
theorem RdN.rd {w : World} {h1 h2 : Nat} {v : Value} {zs : List Int} (h : RdN w h1 h2 v zs) : RdI w v zs := h.1
theorem RdN.below {w w' : World} {h1 h2 : Nat} {v : Value} {zs : List Int} (h : RdN w h1 h2 v zs) (hb : Below w.heap.size w w') : RdN w' h1 h2 v zs := ⟨h.1.below hb, h.2⟩
theorem RdN.set {w : World} {h1 h2 : Nat} {v : Value} {zs : List Int} (h : RdN w h1 h2 v zs) {p : Addr} (hp : p.block = h1 ∨ p.block = h2) (u : Value) : RdN (w.setCell p u) h1 h2 v zs := by
  refine ⟨?_, h.2⟩
  obtain ⟨ao, cap, rfl, hcp, hr⟩ := h.1
  refine ⟨ao, cap, rfl, hcp, ?_⟩
  rcases hr with hr | ⟨b, off, rfl, hc⟩
  · exact .inl hr
  · have h3 := h.2 _ _ _ rfl
    refine .inr ⟨b, off, rfl, fun i hi => ?_⟩
    rw [World.cell?_of_block (w := w) (Below.heap_setCell _ _ _ _ (by simp only at h3 ⊢; rcases hp with hp | hp <;> rw [hp]; exact h3.1; exact h3.2))]
    exact hc i hi
theorem RdN.ofOw {w : World} {B h1 h2 : Nat} {v : Value} {zs : List Int} (h : OwI w B v zs) (q1 : h1 < B ∨ w.heap.size ≤ h1) (q2 : h2 < B ∨ w.heap.size ≤ h2) : RdN w h1 h2 v zs := by
  refine ⟨h.rd, fun p n c hv => ?_⟩
  have := h.blk p n c hv
  omega
theorem cellNe2 {w : World} {g k : Nat} {u : Value} (h : k ≠ g) : (w.setCell ⟨g, 0, none⟩ u).cell? ⟨k, 0, none⟩ = w.cell? ⟨k, 0, none⟩ := World.cell?_of_block (w := w) (Below.heap_setCell _ _ _ _ (by simp only; omega))
theorem RowV.setCell {w : World} {B : Nat} {v : Value} {ls : List (List Int)} (h : RowV w B v ls) {p : Addr} (hp : p.block < B) (u : Value) : RowV (w.setCell p u) B v ls := by
  obtain ⟨g, cap, f, c, hv, hr, he⟩ := h
  refine ⟨g, cap, f, c, hv, ⟨hr.1, ?_⟩, fun i hi => ?_⟩
  · rcases hr.2 with h | ⟨g', cap', cur, h1, h2, h3, h4⟩
    · exact .inl h
    · exact .inr ⟨g', cap', cur, h1, h2, by rw [Below.heap_setCell _ _ _ _ (by omega)]; exact h3, h4⟩
  · have h := he i hi
    exact ⟨h.1.setCell hp u, by rw [World.size_setCell]; exact h.2.1, h.2.2⟩
theorem OwWs.mono {w : World} {lo lo' hi : Nat} {v : Value} {ls : List (List Int)} (h : OwWs w lo hi v ls) (hl : lo' ≤ lo) : OwWs w lo' hi v ls := by
  rcases h with h | ⟨g, cap, f, c, hv, hc, h1, h2, h3, he, hx⟩
  · exact .inl h
  · exact .inr ⟨g, cap, f, c, hv, hc, by omega, h2, h3, fun i hi => ⟨(he i hi).1.mono hl, (he i hi).2⟩, hx⟩
/-- Both variables' boxes and the list so far. -/
def SqI (w : World) (h1 h2 B : Nat) (W C : List Int) (acc : List (List Int)) (lv : Value) (wr : World) : Prop :=
  ∃ aw nw ac nc, wr.cell? ⟨h1, 0, none⟩ = some (.slice aw W.length nw) ∧ wr.cell? ⟨h2, 0, none⟩ = some (.slice ac C.length nc) ∧ wr.frozen? ⟨h1, 0, none⟩ = false ∧ wr.frozen? ⟨h2, 0, none⟩ = false ∧
    RdN wr h1 h2 (.slice aw W.length nw) W ∧ RdN wr h1 h2 (.slice ac C.length nc) C ∧ RowV wr B lv acc ∧ Below w.heap.size w wr
theorem SqI.put {w wr : World} {h1 h2 B : Nat} {W' C' : List Int} {acc : List (List Int)} {lv v1 v2 : Value} {p q : Option Addr} {n m : Nat} (x1 : wr.cell? ⟨h1, 0, none⟩ = some v1) (x2 : wr.cell? ⟨h2, 0, none⟩ = some v2) (y1 : wr.frozen? ⟨h1, 0, none⟩ = false) (y2 : wr.frozen? ⟨h2, 0, none⟩ = false) (hr : RowV wr B lv acc) (hb : Below w.heap.size w wr)
    (hne : h1 ≠ h2) (l1 : w.heap.size ≤ h1) (l2 : w.heap.size ≤ h2) (b1 : h1 < B) (b2 : h2 < B)
    (hW : RdN wr h1 h2 (.slice p W'.length n) W') (hC : RdN wr h1 h2 (.slice q C'.length m) C') :
    SqI w h1 h2 B W' C' acc lv ((wr.setCell ⟨h1, 0, none⟩ (.slice p W'.length n)).setCell ⟨h2, 0, none⟩ (.slice q C'.length m)) := by
  refine ⟨p, n, q, m, ?_, ?_, ?_, ?_, (hW.set (.inl rfl) _).set (.inr rfl) _, (hC.set (.inl rfl) _).set (.inr rfl) _, (hr.setCell b1 _).setCell b2 _, Below.setCell (Below.setCell hb (by simp only; omega) _) (by simp only; omega) _⟩
  · rw [cellNe2 hne]; exact World.cell?_setCell_same _ _ _ x1
  · exact World.cell?_setCell_same _ _ _ (by rw [cellNe2 (Ne.symm hne)]; exact x2)
  · rw [World.frozen?_setCell, World.frozen?_setCell]; exact y1
  · rw [World.frozen?_setCell, World.frozen?_setCell]; exact y2
def RetWs (F : Option (List (List Int))) (w : World) (e : Ending) (w' : World) : Prop := ∃ v, e = .returned (.tuple #[v, .bool F.isSome]) ∧ OwWs w' w.heap.size w'.heap.size v (F.getD []) ∧ Below w.heap.size w w'
theorem prim_give {zs : List Int} (h : Vld zs) : giveF (trimS (primZ zs)) = (primZ zs, true) := by
  rw [(prim_trd h.trd).trimS]
  exact giveF_valid (validB_iff.2 (prim_vld h))
theorem snd_true {F : List Int × Bool} (h : F.2 = true) : F = (F.1, true) := by rw [← h]

set_option maxRecDepth 100000 in
set_option maxHeartbeats 4000000 in
theorem SquareFree_spec (va : Value) (a : List Int) (w : World) (ha : RdI w va a) (hla : a.length ≤ 1099511627776) : Calls Try.prog 42 #[.agg #[va]] w (RetWs (sqfree a) w) := by
  have Ha := Lib.hid ha
  obtain ⟨aoa, ca, rfl⟩ := ha.shape
  have hbw : Below w.heap.size w (w.alloc (.cells #[.slice aoa a.length ca] 27)) := by (repeat' (first | (with_reducible exact Below.refl _ _) | (with_reducible assumption) | (with_reducible refine Below.alloc ?_ ?_ _) | (with_reducible refine Below.setCell ?_ ?_ _) | (with_reducible refine Below.drew ?_) | (with_reducible refine Below.via (by assumption) ?_ ?_) | go_size))
  have Hbw := Lib.hid hbw
  clear ha hbw
  cases hqa : validB a
  · have Ho := Lib.hid (show sqfree a = none by rw [sqfree, if_neg (by rw [hqa]; simp)])
    go_enter Try.func42, Try.ntmps42
    go_wp2_with fail
    (go_at_call 65; ((with_reducible refine (is_spec _ _ a _ (by go_simp) (Ha.out.below (by (repeat' (first | (with_reducible exact Below.refl _ _) | (with_reducible assumption) | (with_reducible refine Below.alloc ?_ ?_ _) | (with_reducible refine Below.setCell ?_ ?_ _) | (with_reducible refine Below.drew ?_) | (with_reducible refine Below.via (by assumption) ?_ ?_) | go_size)))) hla).mono ?_); rintro e w' ⟨rfl, rfl⟩))
    go_wp2_with fail
    go_ret2
    rw [Ho.out]
    exact ⟨_, rfl, .inl ⟨rfl, rfl⟩, by have h := Hbw.out; have h2 := h.size; (repeat' (first | (with_reducible exact Below.refl _ _) | (with_reducible assumption) | (with_reducible refine Below.alloc ?_ ?_ _) | (with_reducible refine Below.setCell ?_ ?_ _) | (with_reducible refine Below.drew ?_) | (with_reducible refine Below.via (by assumption) ?_ ?_) | go_size))⟩
  have Hva := Lib.hid (validB_iff.1 hqa)
  have hl17 := Hva.out.len
  by_cases h2 : a.length < 2
  · have Ho := Lib.hid (show sqfree a = none by rw [sqfree, if_neg (by rw [hqa]; simp; omega)])
    go_enter Try.func42, Try.ntmps42
    go_wp2_with fail
    (go_at_call 65; ((with_reducible refine (is_spec _ _ a _ (by go_simp) (Ha.out.below (by (repeat' (first | (with_reducible exact Below.refl _ _) | (with_reducible assumption) | (with_reducible refine Below.alloc ?_ ?_ _) | (with_reducible refine Below.setCell ?_ ?_ _) | (with_reducible refine Below.drew ?_) | (with_reducible refine Below.via (by assumption) ?_ ?_) | go_size)))) hla).mono ?_); rintro e w' ⟨rfl, rfl⟩))
    have h2' : (a.length : Int) < 2 := by omega
    go_wp2_with fail
    go_ret2
    rw [Ho.out]
    exact ⟨_, rfl, .inl ⟨rfl, rfl⟩, by have h := Hbw.out; have h2 := h.size; (repeat' (first | (with_reducible exact Below.refl _ _) | (with_reducible assumption) | (with_reducible refine Below.alloc ?_ ?_ _) | (with_reducible refine Below.setCell ?_ ?_ _) | (with_reducible refine Below.drew ?_) | (with_reducible refine Below.via (by assumption) ?_ ?_) | go_size))⟩
  have Ho0 := Lib.hid (show sqfree a = if (slopeR (sqQ a)).2 = true then
      if (commonW (sqQ a) (sqS a)).2 = true then
        if (quoR (sqQ a) (sqC0 a)).2 = true then sqZ (sqW0 a) (sqC0 a) [] else none
      else none
    else none by rw [sqfree, if_pos (by rw [hqa]; simp; omega)])
  have h2' : ¬ ((a.length : Int) < 2) := by omega
  have Hpg := Lib.hid (prim_give Hva.out)
  have Hvq := Lib.hid (show Vld (sqQ a) from prim_vld Hva.out)
  have hlq := Hvq.out.len
  go_enter Try.func42, Try.ntmps42
  go_wp2_with fail
  (go_at_call 65; ((with_reducible refine (is_spec _ _ a _ (by go_simp) (Ha.out.below (by (repeat' (first | (with_reducible exact Below.refl _ _) | (with_reducible assumption) | (with_reducible refine Below.alloc ?_ ?_ _) | (with_reducible refine Below.setCell ?_ ?_ _) | (with_reducible refine Below.drew ?_) | (with_reducible refine Below.via (by assumption) ?_ ?_) | go_size)))) hla).mono ?_); rintro e w' ⟨rfl, rfl⟩))
  go_wp2_with fail
  clear hqa
  (go_at_call 113; ((with_reducible refine (prim_spec _ a _ (Ha.out.below (by (repeat' (first | (with_reducible exact Below.refl _ _) | (with_reducible assumption) | (with_reducible refine Below.alloc ?_ ?_ _) | (with_reducible refine Below.setCell ?_ ?_ _) | (with_reducible refine Below.drew ?_) | (with_reducible refine Below.via (by assumption) ?_ ?_) | go_size)))) Hva.out.ne (by omega) Hva.out.bd).mono ?_); rintro e w1 ⟨v1, rfl, ho1, hb1⟩))
  obtain ⟨p1, n1, rfl⟩ := ho1.rd.shape
  replace Hbw := Lib.hid (Hbw.out.trans (hb1.mono Hbw.out.size))
  have Ho1 := Lib.hid ho1
  clear ho1 hb1
  go_wp2_with fail
  (go_at_call 66; ((with_reducible refine (give_spec _ (primZ a) _ Ho1.out.rd (by have h : (sqQ a).length ≤ 17 := hlq; unfold sqQ at h; omega)).mono ?_); rintro e w2 ⟨v2, rfl, ho2, hb2⟩))
  replace Hbw := Lib.hid (Hbw.out.trans (hb2.mono Hbw.out.size))
  have Hq := Lib.hid (show RdI w2 v2 (sqQ a) by have h := ho2.rd; rw [Hpg.out] at h; exact h)
  rw [Hpg.out]
  clear ho2 hb2 Ho1
  obtain ⟨p2, n2, rfl⟩ := Hq.out.shape
  have HF1 := Lib.hid (show slopeR (sqQ a) = (sqS a, (slopeR (sqQ a)).2) from rfl)
  have HF2 := Lib.hid (show commonW (sqQ a) (sqS a) = (sqC0 a, (commonW (sqQ a) (sqS a)).2) from rfl)
  have HF3 := Lib.hid (show quoR (sqQ a) (sqC0 a) = (sqW0 a, (quoR (sqQ a) (sqC0 a)).2) from rfl)
  have hls : (sqS a).length ≤ 17 := by show (slopeR (sqQ a)).1.length ≤ 17; unfold slopeR; split; exact giveF_len _; simp
  have hlc : (sqC0 a).length ≤ 1048576 := commonW_len _ _
  generalize sqQ a = q at *
  generalize sqS a = s at *
  generalize sqC0 a = c0 at *
  generalize sqW0 a = w0 at *
  go_wp2_with fail
  (go_at_call 114; ((with_reducible refine (SlopeWhole_spec _ q _ (Hq.out.below (by (repeat' (first | (with_reducible exact Below.refl _ _) | (with_reducible assumption) | (with_reducible refine Below.alloc ?_ ?_ _) | (with_reducible refine Below.setCell ?_ ?_ _) | (with_reducible refine Below.drew ?_) | (with_reducible refine Below.via (by assumption) ?_ ?_) | go_size)))) (by omega)).mono ?_); rintro e w3 ⟨v3, rfl, ho3, hb3⟩))
  rw [HF1.out] at ho3
  rw [HF1.out]
  have hb23 := (show Below w2.heap.size w2 w3 by (repeat' (first | (with_reducible exact Below.refl _ _) | (with_reducible assumption) | (with_reducible refine Below.alloc ?_ ?_ _) | (with_reducible refine Below.setCell ?_ ?_ _) | (with_reducible refine Below.drew ?_) | (with_reducible refine Below.via (by assumption) ?_ ?_) | go_size)))
  have x4 : w3.cell? ⟨w2.heap.size, 0, none⟩ = some (.slice p2 q.length n2) := (hb3.cell (p := ⟨w2.heap.size, 0, none⟩) (by simp)).trans (World.cell?_alloc_new w2 _ _ 0 : _)
  have z3 := hb23.size
  replace Hq := Lib.hid (Hq.out.below hb23)
  replace Hbw := Lib.hid (Hbw.out.trans (hb23.mono Hbw.out.size))
  have Hs := Lib.hid ho3
  obtain ⟨p3, n3, rfl⟩ := ho3.rd.shape
  clear ho3 hb3 hb23
  have l4 := World.block_lt_of_cell? _ _ x4
  simp only at l4
  generalize w2.heap.size = hq4 at *
  generalize (slopeR q).2 = okS at *
  cases okS
  · have Ho := Lib.hid (show sqfree a = none by rw [Ho0.out, if_neg (by simp)])
    go_wp2_with fail
    go_ret2
    rw [Ho.out]
    exact ⟨_, rfl, .inl ⟨rfl, rfl⟩, by have h := Hbw.out; have h2 := h.size; (repeat' (first | (with_reducible exact Below.refl _ _) | (with_reducible assumption) | (with_reducible refine Below.alloc ?_ ?_ _) | (with_reducible refine Below.setCell ?_ ?_ _) | (with_reducible refine Below.drew ?_) | (with_reducible refine Below.via (by assumption) ?_ ?_) | go_size))⟩
  simp only [if_true] at Ho0
  go_wp2_with fail
  (go_at_call 40; ((with_reducible refine (CommonWhole_spec _ _ q s _ (Hq.out.below (by (repeat' (first | (with_reducible exact Below.refl _ _) | (with_reducible assumption) | (with_reducible refine Below.alloc ?_ ?_ _) | (with_reducible refine Below.setCell ?_ ?_ _) | (with_reducible refine Below.drew ?_) | (with_reducible refine Below.via (by assumption) ?_ ?_) | go_size)))) (Hs.out.rd.below (by (repeat' (first | (with_reducible exact Below.refl _ _) | (with_reducible assumption) | (with_reducible refine Below.alloc ?_ ?_ _) | (with_reducible refine Below.setCell ?_ ?_ _) | (with_reducible refine Below.drew ?_) | (with_reducible refine Below.via (by assumption) ?_ ?_) | go_size)))) (by omega) (by omega)).mono ?_); rintro e w4 ⟨v4, rfl, ho4, hb4⟩))
  rw [HF2.out] at ho4
  rw [HF2.out]
  have hb34 := (show Below w3.heap.size w3 w4 by (repeat' (first | (with_reducible exact Below.refl _ _) | (with_reducible assumption) | (with_reducible refine Below.alloc ?_ ?_ _) | (with_reducible refine Below.setCell ?_ ?_ _) | (with_reducible refine Below.drew ?_) | (with_reducible refine Below.via (by assumption) ?_ ?_) | go_size)))
  replace x4 := (hb34.cell (p := ⟨hq4, 0, none⟩) (World.block_lt_of_cell? _ _ x4)).trans x4
  replace Hq := Lib.hid (Hq.out.below hb34)
  replace Hbw := Lib.hid (Hbw.out.trans (hb34.mono Hbw.out.size))
  have zhb34 := hb34.size
  have lx4 := World.block_lt_of_cell? _ _ x4
  simp only at lx4
  have Hc := Lib.hid ho4
  obtain ⟨p4, n4, rfl⟩ := ho4.rd.shape
  clear ho4 hb4 hb34 l4
  generalize (commonW q s).2 = okC at *
  cases okC
  · have Ho := Lib.hid (show sqfree a = none by rw [Ho0.out, if_neg (by simp)])
    go_wp2_with fail
    go_ret2
    rw [Ho.out]
    exact ⟨_, rfl, .inl ⟨rfl, rfl⟩, by have h := Hbw.out; have h2 := h.size; (repeat' (first | (with_reducible exact Below.refl _ _) | (with_reducible assumption) | (with_reducible refine Below.alloc ?_ ?_ _) | (with_reducible refine Below.setCell ?_ ?_ _) | (with_reducible refine Below.drew ?_) | (with_reducible refine Below.via (by assumption) ?_ ?_) | go_size))⟩
  simp only [if_true] at Ho0
  go_wp2_with fail
  (go_at_call 115; ((with_reducible refine (ExactQuotient_spec _ _ q c0 _ (Hq.out.below (by (repeat' (first | (with_reducible exact Below.refl _ _) | (with_reducible assumption) | (with_reducible refine Below.alloc ?_ ?_ _) | (with_reducible refine Below.setCell ?_ ?_ _) | (with_reducible refine Below.drew ?_) | (with_reducible refine Below.via (by assumption) ?_ ?_) | go_size)))) (Hc.out.rd.below (by (repeat' (first | (with_reducible exact Below.refl _ _) | (with_reducible assumption) | (with_reducible refine Below.alloc ?_ ?_ _) | (with_reducible refine Below.setCell ?_ ?_ _) | (with_reducible refine Below.drew ?_) | (with_reducible refine Below.via (by assumption) ?_ ?_) | go_size)))) (by omega) (by omega)).mono ?_); rintro e w5 ⟨v5, rfl, ho5, hb5⟩))
  rw [HF3.out] at ho5
  rw [HF3.out]
  have hb45 := (show Below w4.heap.size w4 w5 by (repeat' (first | (with_reducible exact Below.refl _ _) | (with_reducible assumption) | (with_reducible refine Below.alloc ?_ ?_ _) | (with_reducible refine Below.setCell ?_ ?_ _) | (with_reducible refine Below.drew ?_) | (with_reducible refine Below.via (by assumption) ?_ ?_) | go_size)))
  have x8 : w5.cell? ⟨w4.heap.size, 0, none⟩ = some (.slice p4 c0.length n4) := (hb5.cell (p := ⟨w4.heap.size, 0, none⟩) (by simp)).trans (World.cell?_alloc_new w4 _ _ 0 : _)
  have y8 : w5.frozen? ⟨w4.heap.size, 0, none⟩ = false := (hb5.frozen (p := ⟨w4.heap.size, 0, none⟩) (by simp)).trans (by go_simp)
  have RC := Lib.hid (show RdN w5 w5.heap.size w4.heap.size (.slice p4 c0.length n4) c0 from (RdN.ofOw Hc.out (.inr (by have := hb45.size; omega)) (.inr (Nat.le_refl _))).below hb45)
  have RW := Lib.hid (show RdN w5 w5.heap.size w4.heap.size v5 w0 from RdN.ofOw ho5 (.inr (Nat.le_refl _)) (.inl (by simp)))
  have z4 := Hbw.out.size
  replace Hbw := Lib.hid (Hbw.out.trans (hb45.mono Hbw.out.size))
  have z5 := hb45.size
  obtain ⟨p5, n5, rfl⟩ := ho5.rd.shape
  have l8 := World.block_lt_of_cell? _ _ x8
  simp only at l8
  clear ho5 hb5 hb45 x4 Hq Hc
  generalize hokW : (quoR q c0).2 = okW at *
  cases okW
  · have Ho := Lib.hid (show sqfree a = none by rw [Ho0.out, if_neg (by simp)])
    go_wp2_with fail
    go_ret2
    rw [Ho.out]
    exact ⟨_, rfl, .inl ⟨rfl, rfl⟩, by have h := Hbw.out; have h2 := h.size; (repeat' (first | (with_reducible exact Below.refl _ _) | (with_reducible assumption) | (with_reducible refine Below.alloc ?_ ?_ _) | (with_reducible refine Below.setCell ?_ ?_ _) | (with_reducible refine Below.drew ?_) | (with_reducible refine Below.via (by assumption) ?_ ?_) | go_size))⟩
  simp only [if_true] at Ho0
  obtain ⟨_, hvc, hzc, hvw, _⟩ := quoR_true HF3.out
  have Hvc := Lib.hid hvc
  have Hvw := Lib.hid hvw
  have hm0 : sqM w0 c0 ≤ 34 := by have := hvc.len; have := hvw.len; unfold sqM; split <;> omega
  have Hzc := Lib.hid hzc
  clear hvc hvw hzc hokW HF1 HF2 HF3
  go_wp2_with fail
  have S0 : ∀ wl : World, wl = ((w5.alloc (.cells #[.slice p5 w0.length n5] 27)).alloc (.cells #[] 27)) → SqI w w5.heap.size w4.heap.size (w5.heap.size + 1) w0 c0 [] (.slice (some ⟨w5.heap.size + 1, 0, none⟩) 0 0) wl := by
    rintro wl rfl
    exact ⟨_, _, _, _, by go_simp, by go_simp, by go_simp, by go_simp, (RW.out.below (by (repeat' (first | (with_reducible exact Below.refl _ _) | (with_reducible assumption) | (with_reducible refine Below.alloc ?_ ?_ _) | (with_reducible refine Below.setCell ?_ ?_ _) | (with_reducible refine Below.drew ?_) | (with_reducible refine Below.via (by assumption) ?_ ?_) | go_size)))), (RC.out.below (by (repeat' (first | (with_reducible exact Below.refl _ _) | (with_reducible assumption) | (with_reducible refine Below.alloc ?_ ?_ _) | (with_reducible refine Below.setCell ?_ ?_ _) | (with_reducible refine Below.drew ?_) | (with_reducible refine Below.via (by assumption) ?_ ?_) | go_size)))), RowV.empty (by simp) (Nat.le_refl _), by have h := Hbw.out; (repeat' (first | (with_reducible exact Below.refl _ _) | (with_reducible assumption) | (with_reducible refine Below.alloc ?_ ?_ _) | (with_reducible refine Below.setCell ?_ ?_ _) | (with_reducible refine Below.drew ?_) | (with_reducible refine Below.via (by assumption) ?_ ?_) | go_size))⟩
  have HS0 := Lib.hid S0
  clear S0 x8 y8 RW RC
  generalize hh1 : w5.heap.size = h1 at *
  generalize hh2 : w4.heap.size = h2 at *
  have hbh : w.heap.size ≤ h1 ∧ w.heap.size ≤ h2 ∧ h2 < h1 := by omega
  obtain ⟨hbh1, hbh2, hbh3⟩ := hbh
  have hne1 : ¬ (h1 = h2) := by omega
  have hne2 : ¬ (h2 = h1) := by omega
  clear z5 z4 zhb34 z3 l8 hh1 hh2 h2'
  go_loopg [12] (sqM w0 c0) (fun g lv wr => ∃ W C acc, SqI w h1 h2 (h1 + 1) W C acc lv wr ∧ zeroB C = false ∧ sqZ W C acc = sqZ w0 c0 [] ∧ sqM W C = g ∧ Vld W ∧ Vld C ∧ acc.length + sqM W C ≤ 40)
  case atStart => exact ⟨w0, c0, [], HS0.out _ rfl, Hzc.out, rfl, rfl, Hvw.out, Hvc.out, by simp; omega⟩
  case round =>
    generalize sqZ w0 c0 [] = G at *
    obtain ⟨W, C, acc, hS, hzC, hsq, hme, hvW, hvC, hal⟩ := hrel
    have HS := Lib.hid hS
    have Hsq := Lib.hid hsq
    have Hme := Lib.hid hme
    have HzC := Lib.hid hzC
    have HvW := Lib.hid hvW
    have HvC := Lib.hid hvC
    obtain ⟨aw, nw, ac, nc, x1, x2, y1, y2, rW, rC, rR, hb0⟩ := hS
    have RW := Lib.hid rW
    have RC := Lib.hid rC
    have RR := Lib.hid rR
    have hlW := hvW.len
    have hlC := hvC.len
    obtain ⟨gR, cR, rfl⟩ := rR.shape
    have s1 := World.block_lt_of_cell? _ _ x1
    have s2 := World.block_lt_of_cell? _ _ x2
    simp only at s1 s2
    replace Hbw := Lib.hid hb0
    have sw := hb0.size
    clear hsq hme hzC hvW hvC rW rC rR hb0
    by_cases hw1 : W.length ≤ 1
    · have Ho := Lib.hid (show sqfree a = some acc by rw [Ho0.out, ← Hsq.out, sqZ_stop hw1])
      have hw2 : ¬ ((1 : Int) < (W.length : Int)) := by omega
      go_wp2_with fail
      go_ret2
      rw [Ho.out]
      exact ⟨_, rfl, RR.out.own.mono (by omega), Hbw.out⟩
    · have hw2 : (1 : Int) < (W.length : Int) := by omega
      have Hno := Lib.hid (fun h => show sqfree a = none by rw [Ho0.out, ← Hsq.out, sqZ_none hw1 h])
      have Hst := Lib.hid (fun h => sq_step hw1 HzC.out h)
      have Hgo := Lib.hid (fun h => show sqZ (sqY W C) (sqC W C) (acc ++ [sqP W C]) = G by rw [← sqZ_go hw1 HzC.out h]; exact Hsq.out)
      have HY := Lib.hid (show commonW W C = (sqY W C, (commonW W C).2) from rfl)
      have HP := Lib.hid (show quoR W (sqY W C) = (sqP W C, (quoR W (sqY W C)).2) from rfl)
      have HC := Lib.hid (show quoR C (sqY W C) = (sqC W C, (quoR C (sqY W C)).2) from rfl)
      have Hok := Lib.hid (show sqOk W C = ((commonW W C).2 && (quoR W (sqY W C)).2 && (quoR C (sqY W C)).2) from rfl)
      have hly : (sqY W C).length ≤ 1048576 := commonW_len _ _
      generalize sqOk W C = okA at *
      generalize sqY W C = Y at *
      generalize sqP W C = P at *
      generalize sqC W C = C2 at *
      go_wp2_with fail
      (go_at_call 40; ((with_reducible refine (CommonWhole_spec _ _ W C _ RW.out.rd RC.out.rd (by omega) (by omega)).mono ?_); rintro e w6 ⟨v6, rfl, o6, d6⟩))
      rw [HY.out] at o6
      rw [HY.out]
      replace x1 := (d6.cell (p := ⟨h1, 0, none⟩) (World.block_lt_of_cell? _ _ x1)).trans x1
      replace x2 := (d6.cell (p := ⟨h2, 0, none⟩) (World.block_lt_of_cell? _ _ x2)).trans x2
      replace RW := Lib.hid (RW.out.below d6)
      replace RC := Lib.hid (RC.out.below d6)
      skip
      replace Hbw := Lib.hid (Hbw.out.trans (d6.mono Hbw.out.size))
      have zd6 := d6.size
      have lx1 := World.block_lt_of_cell? _ _ x1
      simp only at lx1
      have lx2 := World.block_lt_of_cell? _ _ x2
      simp only at lx2
      replace y1 := (d6.frozen (p := ⟨h1, 0, none⟩) s1).trans y1
      replace y2 := (d6.frozen (p := ⟨h2, 0, none⟩) s2).trans y2
      have O6 := Lib.hid o6
      obtain ⟨p6, n6, rfl⟩ := o6.rd.shape
      have Hwr := Lib.hid d6
      clear d6 o6
      generalize (commonW W C).2 = ok1 at *
      cases ok1
      · have Ho := Lib.hid (Hno.out (by rw [Hok.out]; rfl))
        go_wp2_with fail
        go_ret2
        rw [Ho.out]
        exact ⟨_, rfl, .inl ⟨rfl, rfl⟩, by have h := Hbw.out; have h2 := h.size; (repeat' (first | (with_reducible exact Below.refl _ _) | (with_reducible assumption) | (with_reducible refine Below.alloc ?_ ?_ _) | (with_reducible refine Below.setCell ?_ ?_ _) | (with_reducible refine Below.drew ?_) | (with_reducible refine Below.via (by assumption) ?_ ?_) | go_size))⟩
      go_wp2_with fail
      (go_at_call 115; ((with_reducible refine (ExactQuotient_spec _ _ W Y _ (RW.out.rd.below (by (repeat' (first | (with_reducible exact Below.refl _ _) | (with_reducible assumption) | (with_reducible refine Below.alloc ?_ ?_ _) | (with_reducible refine Below.setCell ?_ ?_ _) | (with_reducible refine Below.drew ?_) | (with_reducible refine Below.via (by assumption) ?_ ?_) | go_size)))) (O6.out.rd.below (by (repeat' (first | (with_reducible exact Below.refl _ _) | (with_reducible assumption) | (with_reducible refine Below.alloc ?_ ?_ _) | (with_reducible refine Below.setCell ?_ ?_ _) | (with_reducible refine Below.drew ?_) | (with_reducible refine Below.via (by assumption) ?_ ?_) | go_size)))) (by omega) (by omega)).mono ?_); rintro e w7 ⟨v7, rfl, o7, d7⟩))
      rw [HP.out] at o7
      rw [HP.out]
      have d67 := (show Below w6.heap.size w6 w7 by (repeat' (first | (with_reducible exact Below.refl _ _) | (with_reducible assumption) | (with_reducible refine Below.alloc ?_ ?_ _) | (with_reducible refine Below.setCell ?_ ?_ _) | (with_reducible refine Below.drew ?_) | (with_reducible refine Below.via (by assumption) ?_ ?_) | go_size)))
      have x6 : w7.cell? ⟨w6.heap.size, 0, none⟩ = some (.slice p6 Y.length n6) := (d7.cell (p := ⟨w6.heap.size, 0, none⟩) (by simp)).trans (World.cell?_alloc_new w6 _ _ 0 : _)
      have R6 := Lib.hid (show RdN w7 h1 h2 (.slice p6 Y.length n6) Y from (RdN.ofOw O6.out (.inl (by omega)) (.inl (by omega))).below d67)
      have O6b := Lib.hid (O6.out.below d67)
      replace Hwr := Lib.hid (Hwr.out.trans (d67.mono (by omega)))
      replace y1 := (d67.frozen (p := ⟨h1, 0, none⟩) lx1).trans y1
      replace y2 := (d67.frozen (p := ⟨h2, 0, none⟩) lx2).trans y2
      clear lx1 lx2
      replace x1 := (d67.cell (p := ⟨h1, 0, none⟩) (World.block_lt_of_cell? _ _ x1)).trans x1
      replace x2 := (d67.cell (p := ⟨h2, 0, none⟩) (World.block_lt_of_cell? _ _ x2)).trans x2
      replace RW := Lib.hid (RW.out.below d67)
      replace RC := Lib.hid (RC.out.below d67)
      skip
      replace Hbw := Lib.hid (Hbw.out.trans (d67.mono Hbw.out.size))
      have zd67 := d67.size
      have lx1 := World.block_lt_of_cell? _ _ x1
      simp only at lx1
      have lx2 := World.block_lt_of_cell? _ _ x2
      simp only at lx2
      have l6 := World.block_lt_of_cell? _ _ x6
      simp only at l6
      have O7 := Lib.hid o7
      obtain ⟨p7, n7, rfl⟩ := o7.rd.shape
      clear d7 d67 o7 O6
      go_wp2_with fail
      (go_at_call 115; ((with_reducible refine (ExactQuotient_spec _ _ C Y _ (RC.out.rd.below (by (repeat' (first | (with_reducible exact Below.refl _ _) | (with_reducible assumption) | (with_reducible refine Below.alloc ?_ ?_ _) | (with_reducible refine Below.setCell ?_ ?_ _) | (with_reducible refine Below.drew ?_) | (with_reducible refine Below.via (by assumption) ?_ ?_) | go_size)))) (R6.out.rd.below (by (repeat' (first | (with_reducible exact Below.refl _ _) | (with_reducible assumption) | (with_reducible refine Below.alloc ?_ ?_ _) | (with_reducible refine Below.setCell ?_ ?_ _) | (with_reducible refine Below.drew ?_) | (with_reducible refine Below.via (by assumption) ?_ ?_) | go_size)))) (by omega) (by omega)).mono ?_); rintro e w8 ⟨v8, rfl, o8, d8⟩))
      rw [HC.out] at o8
      rw [HC.out]
      have d78 := (show Below w7.heap.size w7 w8 by (repeat' (first | (with_reducible exact Below.refl _ _) | (with_reducible assumption) | (with_reducible refine Below.alloc ?_ ?_ _) | (with_reducible refine Below.setCell ?_ ?_ _) | (with_reducible refine Below.drew ?_) | (with_reducible refine Below.via (by assumption) ?_ ?_) | go_size)))
      have x7 : w8.cell? ⟨w7.heap.size, 0, none⟩ = some (.slice p7 P.length n7) := (d8.cell (p := ⟨w7.heap.size, 0, none⟩) (by simp)).trans (World.cell?_alloc_new w7 _ _ 0 : _)
      replace x6 := (d78.cell (p := ⟨w6.heap.size, 0, none⟩) l6).trans x6
      replace R6 := Lib.hid (R6.out.below d78)
      have R7 := Lib.hid (O7.out.below d78)
      replace O6b := Lib.hid (O6b.out.below d78)
      replace Hwr := Lib.hid (Hwr.out.trans (d78.mono (by omega)))
      replace y1 := (d78.frozen (p := ⟨h1, 0, none⟩) lx1).trans y1
      replace y2 := (d78.frozen (p := ⟨h2, 0, none⟩) lx2).trans y2
      clear lx1 lx2 l6
      replace x1 := (d78.cell (p := ⟨h1, 0, none⟩) (World.block_lt_of_cell? _ _ x1)).trans x1
      replace x2 := (d78.cell (p := ⟨h2, 0, none⟩) (World.block_lt_of_cell? _ _ x2)).trans x2
      replace RW := Lib.hid (RW.out.below d78)
      replace RC := Lib.hid (RC.out.below d78)
      replace Hbw := Lib.hid (Hbw.out.trans (d78.mono Hbw.out.size))
      have zd78 := d78.size
      have lx1 := World.block_lt_of_cell? _ _ x1
      simp only at lx1
      have lx2 := World.block_lt_of_cell? _ _ x2
      simp only at lx2
      have l6 := World.block_lt_of_cell? _ _ x6
      have l7 := World.block_lt_of_cell? _ _ x7
      simp only at l6 l7
      have O8 := Lib.hid o8
      obtain ⟨p8, n8, rfl⟩ := o8.rd.shape
      clear o8 d8
      generalize (quoR W Y).2 = ok2 at *
      generalize (quoR C Y).2 = ok3 at *
      cases ok2
      · have Ho := Lib.hid (Hno.out (by rw [Hok.out]; simp))
        go_wp2_with fail
        go_ret2
        rw [Ho.out]
        exact ⟨_, rfl, .inl ⟨rfl, rfl⟩, by have h := Hbw.out; have h2 := h.size; (repeat' (first | (with_reducible exact Below.refl _ _) | (with_reducible assumption) | (with_reducible refine Below.alloc ?_ ?_ _) | (with_reducible refine Below.setCell ?_ ?_ _) | (with_reducible refine Below.drew ?_) | (with_reducible refine Below.via (by assumption) ?_ ?_) | go_size))⟩
      cases ok3
      · have Ho := Lib.hid (Hno.out (by rw [Hok.out]; simp))
        go_wp2_with fail
        go_ret2
        rw [Ho.out]
        exact ⟨_, rfl, .inl ⟨rfl, rfl⟩, by have h := Hbw.out; have h2 := h.size; (repeat' (first | (with_reducible exact Below.refl _ _) | (with_reducible assumption) | (with_reducible refine Below.alloc ?_ ?_ _) | (with_reducible refine Below.setCell ?_ ?_ _) | (with_reducible refine Below.drew ?_) | (with_reducible refine Below.via (by assumption) ?_ ?_) | go_size))⟩
      obtain rfl : okA = true := by rw [Hok.out]; rfl
      have hst := Hst.out rfl
      have Hgo2 := Lib.hid (Hgo.out rfl)
      have Hst2 := Lib.hid hst
      obtain ⟨gp, cp, he7, hB7, hs7, _, _, _⟩ := R7.out.open hst.2.2.2.2.ne
      simp only [Value.slice.injEq, true_and] at he7
      obtain ⟨rfl, rfl⟩ := he7
      obtain ⟨gc, cc, he8, hB8, hs8, _, _, _⟩ := O8.out.open hst.2.2.1.ne
      simp only [Value.slice.injEq, true_and] at he8
      obtain ⟨rfl, rfl⟩ := he8
      obtain ⟨gy, cy, he6, hB6, hs6, _, _, _⟩ := O6b.out.open hst.2.1.ne
      simp only [Value.slice.injEq, true_and] at he6
      obtain ⟨rfl, rfl⟩ := he6
      (try simp only [World.size_alloc] at hB7 hB8 hB6)
      have hacc : acc.length ≤ 1048576 := by omega
      clear hst Hno Hgo Hst Hok HY HP HC hly RW RC
      have dW : Below w8.heap.size w8 (w8.alloc (.cells #[.slice (some ⟨gc, 0, none⟩) C2.length n8] 27)) := by (repeat' (first | (with_reducible exact Below.refl _ _) | (with_reducible assumption) | (with_reducible refine Below.alloc ?_ ?_ _) | (with_reducible refine Below.setCell ?_ ?_ _) | (with_reducible refine Below.drew ?_) | (with_reducible refine Below.via (by assumption) ?_ ?_) | go_size))
      have Hpush := Lib.hid (fun (w9 : World) (hb9 : Below (h1 + 1) (w8.alloc (.cells #[.slice (some ⟨gc, 0, none⟩) C2.length n8] 27)) w9) (hk9 : ∀ k, wr.heap.size ≤ k → k < ((w8.alloc (.cells #[.slice (some ⟨gc, 0, none⟩) C2.length n8] 27))).heap.size → w9.heap[k]? = ((w8.alloc (.cells #[.slice (some ⟨gc, 0, none⟩) C2.length n8] 27))).heap[k]?) =>
        (show w9.cell? ⟨h1, 0, none⟩ = some (.slice aw W.length nw) ∧ w9.cell? ⟨h2, 0, none⟩ = some (.slice ac C.length nc) ∧ w9.frozen? ⟨h1, 0, none⟩ = false ∧ w9.frozen? ⟨h2, 0, none⟩ = false ∧
            w9.cell? ⟨w6.heap.size, 0, none⟩ = some (.slice (some ⟨gy, 0, none⟩) Y.length n6) ∧ w9.cell? ⟨w8.heap.size, 0, none⟩ = some (.slice (some ⟨gc, 0, none⟩) C2.length n8) ∧
            RdN w9 h1 h2 (.slice (some ⟨gy, 0, none⟩) Y.length n6) Y ∧ RdN w9 h1 h2 (.slice (some ⟨gc, 0, none⟩) C2.length n8) C2 ∧ Below w.heap.size w w9 ∧ w8.heap.size < w9.heap.size from by
          have hsW : ((w8.alloc (.cells #[.slice (some ⟨gc, 0, none⟩) C2.length n8] 27))).heap.size = w8.heap.size + 1 := by simp
          have hs9 := hb9.size
          have q1 : w9.heap[gy]? = ((w8.alloc (.cells #[.slice (some ⟨gc, 0, none⟩) C2.length n8] 27))).heap[gy]? := hk9 gy hB6 (by omega)
          have q2 : w9.heap[gc]? = ((w8.alloc (.cells #[.slice (some ⟨gc, 0, none⟩) C2.length n8] 27))).heap[gc]? := hk9 gc (by omega) (by omega)
          refine ⟨(hb9.cell (p := ⟨h1, 0, none⟩) (by simp only; omega)).trans ((dW.cell (p := ⟨h1, 0, none⟩) lx1).trans x1), (hb9.cell (p := ⟨h2, 0, none⟩) (by simp only; omega)).trans ((dW.cell (p := ⟨h2, 0, none⟩) lx2).trans x2),
            (hb9.frozen (p := ⟨h1, 0, none⟩) (by simp only; omega)).trans ((dW.frozen (p := ⟨h1, 0, none⟩) lx1).trans y1), (hb9.frozen (p := ⟨h2, 0, none⟩) (by simp only; omega)).trans ((dW.frozen (p := ⟨h2, 0, none⟩) lx2).trans y2),
            ?_, ?_, RdN.ofOw (B := wr.heap.size) (((O6b.out.below dW).block q1).mono (by omega)) (.inl (by omega)) (.inl (by omega)), RdN.ofOw (B := wr.heap.size) (((O8.out.below dW).block q2).mono (by simp only [World.size_alloc]; omega)) (.inl (by omega)) (.inl (by omega)), ?_, by omega⟩
          · rw [World.cell?_of_block (w := (w8.alloc (.cells #[.slice (some ⟨gc, 0, none⟩) C2.length n8] 27))) (hk9 _ (by simp only; omega) (by simp only; omega))]
            exact (dW.cell (p := ⟨w6.heap.size, 0, none⟩) l6).trans x6
          · rw [World.cell?_of_block (w := (w8.alloc (.cells #[.slice (some ⟨gc, 0, none⟩) C2.length n8] 27))) (hk9 _ (by simp only; omega) (by simp only; omega))]
            exact (World.cell?_alloc_new w8 _ _ 0 : _)
          · have h := Hbw.out
            exact (h.trans (dW.mono (by omega))).trans (hb9.mono (by omega))))
      have nn1 : ¬ (w8.heap.size = h1) := by omega
      have nn2 : ¬ (h1 = w8.heap.size) := by omega
      have nn3 : ¬ (w8.heap.size = h2) := by omega
      have nn4 : ¬ (h2 = w8.heap.size) := by omega
      go_wp2_with (at_builtin; go_must (refine wpList_pushW RR.out (by have h := Hwr.out; (repeat' (first | (with_reducible exact Below.refl _ _) | (with_reducible assumption) | (with_reducible refine Below.alloc ?_ ?_ _) | (with_reducible refine Below.setCell ?_ ?_ _) | (with_reducible refine Below.drew ?_) | (with_reducible refine Below.via (by assumption) ?_ ?_) | go_size))) (show wr.heap.size ≤ gp by omega) ((R7.out.mono (by simp only [World.size_alloc]; omega)).below (by (repeat' (first | (with_reducible exact Below.refl _ _) | (with_reducible assumption) | (with_reducible refine Below.alloc ?_ ?_ _) | (with_reducible refine Below.setCell ?_ ?_ _) | (with_reducible refine Below.drew ?_) | (with_reducible refine Below.via (by assumption) ?_ ?_) | go_size)))) rfl _ _ rfl wholeS_under hacc (by simp; omega) rfl rfl (by simp) ?_); intro v9 w9 hr9 hb9 hk9; obtain ⟨e1, e2, f1, f2, e6, e8, rY, rC, bw, sz9⟩ := Hpush.out w9 hb9 hk9; have Hr9 := Lib.hid hr9; have RY := Lib.hid rY; have RC := Lib.hid rC; have Bw := Lib.hid bw; clear hr9 rY rC bw hb9 hk9 x1 x2 x6 x7 y1 y2 dW)
      go_roundg (sqM Y C2)
      case measure => rw [← Hme.out]; exact Hst2.out.1
      case rel =>
        have h := Hst2.out
        exact ⟨Y, C2, acc ++ [P], SqI.put e1 e2 f1 f2 Hr9.out Bw.out hne1 hbh1 hbh2 (by omega) (by omega) RY.out RC.out, h.2.2.2.1, Hgo2.out, rfl, h.2.1, h.2.2.1, by rw [List.length_append, List.length_singleton]; omega⟩

end Go.Proofs.Ytlnjkjogedbhfaa
