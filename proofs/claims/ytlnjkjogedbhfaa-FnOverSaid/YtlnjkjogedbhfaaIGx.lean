/- Factors over a prime: the program's list. Conditions: a prime, degrees 1 to 6. -/
import Derived.Test.YtlnjkjogedbhfaaIFac3
import Derived.Test.YtlnjkjogedbhfaaIFx
import Derived.Test.YtlnjkjogedbhfaaI19
import Derived.Test.YtlnjkjogedbhfaaIWs
namespace Go.Proofs.Ytlnjkjogedbhfaa
open Go Go.RowKit
set_option linter.unusedSimpArgs false
set_option linter.unusedVariables false

/-- The digits from k on. -/
def dgs (M d n k : Nat) : List Int := (List.range (d + 1)).map fun j => if k ≤ j ∧ j < d then (dg M n j : Int) else 0
theorem dgs_length (M d n k : Nat) : (dgs M d n k).length = d + 1 := by simp [dgs]
theorem dgs_get (M d n k j : Nat) : (dgs M d n k).getD j 0 = if k ≤ j ∧ j < d then (dg M n j : Int) else 0 := by
  simp only [dgs, List.getD, List.getElem?_map]
  by_cases hj : j < d + 1
  · rw [List.getElem?_range hj]; rfl
  · rw [List.getElem?_eq_none (by simp; omega), if_neg (by omega)]; rfl
theorem dgs_start (M d n : Nat) : List.replicate (d + 1) (0 : Int) = dgs M d n d := by
  refine ext_getD (by rw [dgs_length, List.length_replicate]) fun i => ?_
  rw [dgs_get, if_neg (by omega)]
  simp only [List.getD, List.getElem?_replicate]; split <;> rfl
theorem dgs_step {M d n k : Nat} (h : k < d) : (dgs M d n (k + 1)).set k (dg M n k : Int) = dgs M d n k := by
  refine ext_getD (by rw [List.length_set, dgs_length, dgs_length]) fun i => ?_
  rw [set_get _ _ _ (by rw [dgs_length]; omega), dgs_get, dgs_get]
  by_cases hi : i = k
  · subst hi; rw [if_pos rfl, if_pos ⟨Nat.le_refl _, h⟩]
  · rw [if_neg hi]
    by_cases h2 : k + 1 ≤ i ∧ i < d
    · rw [if_pos h2, if_pos (by omega)]
    · rw [if_neg h2, if_neg (by omega)]
theorem dgs_end (M d n : Nat) : (dgs M d n 0).set d 1 = cand M d n := by
  refine ext_getD (by rw [List.length_set, dgs_length, cand_length]) fun i => ?_
  rw [set_get _ _ _ (by rw [dgs_length]; omega), dgs_get, cand_get]
  by_cases hi : i = d
  · subst hi; rw [if_pos rfl, if_neg (by omega), if_pos rfl]
  · rw [if_neg hi]
    by_cases h2 : i < d
    · rw [if_pos ⟨Nat.zero_le _, h2⟩, if_pos h2]
    · rw [if_neg (by omega), if_neg h2, if_neg hi]
theorem pow_bd {M i : Nat} (hM : M ≤ 13) (hM1 : 1 ≤ M) (hi : i ≤ 3) : M ^ i ≤ 2197 := Nat.le_trans (Nat.pow_le_pow_right hM1 hi) (Nat.le_trans (Nat.pow_le_pow_left hM 3) (by decide))
/-- At the head of the outer loop. -/
def FiO (M : Nat) (L : List (List Int)) (B : Nat) (w : World) (d : Nat) (ov : Value) (wr : World) : Prop :=
  ∃ now acc L' pn cn, wr.cell? ⟨w.heap.size, 0, none⟩ = some (.slice (some ⟨pn, 0, none⟩) now.length cn) ∧ wr.frozen? ⟨w.heap.size, 0, none⟩ = false ∧ OwI wr B (.slice (some ⟨pn, 0, none⟩) now.length cn) now ∧ pn ≠ w.heap.size ∧ RowX 27 wr w.heap.size (fun k => k = pn ∨ k = w.heap.size) ov acc ∧
    (2 * d ≤ now.length - 1 → Fi M d 0 now L') ∧ (now.length - 1 < 2 * d → L' = if 1 < now.length then [now] else []) ∧ acc ++ L' = L ∧ Mon M now ∧ now.length ≤ 7 ∧ Below w.heap.size w wr
/-- At the head of the loop over the candidates of degree d. -/
def FiN (M : Nat) (L : List (List Int)) (B : Nat) (w : World) (d n : Nat) (G : Nat → Prop) (now : List Int) (ov : Value) (wr : World) : Prop :=
  ∃ acc L' pn cn, wr.cell? ⟨w.heap.size, 0, none⟩ = some (.slice (some ⟨pn, 0, none⟩) now.length cn) ∧ wr.frozen? ⟨w.heap.size, 0, none⟩ = false ∧ OwI wr B (.slice (some ⟨pn, 0, none⟩) now.length cn) now ∧ pn ≠ w.heap.size ∧ RowX 27 wr w.heap.size (fun k => k = pn ∨ k = w.heap.size ∨ G k) ov acc ∧
    Fi M d n now L' ∧ acc ++ L' = L ∧ Mon M now ∧ now.length ≤ 7 ∧ Below w.heap.size w wr
theorem FiN.below {M B d n : Nat} {G : Nat → Prop} {L : List (List Int)} {w wr w' : World} {now : List Int} {ov : Value} (h : FiN M L B w d n G now ov wr) (hb : Below wr.heap.size wr w') : FiN M L B w d n G now ov w' := by
  obtain ⟨acc, L', pn, cn, h1, h2, h3, h4, h5, h6, h7, h8, h9, h10⟩ := h
  have hl := World.block_lt_of_cell? _ _ h1
  exact ⟨acc, L', pn, cn, (hb.cell hl).trans h1, (hb.frozen hl).trans h2, h3.below hb, h4, h5.below hb, h6, h7, h8, h9, h10.trans (hb.mono h10.size)⟩
theorem FiN.miss {M B d n : Nat} {G G' : Nat → Prop} {L : List (List Int)} {w wr : World} {now : List Int} {ov : Value} (h : FiN M L B w d n G now ov wr) (h1 : n < M ^ d) (h2 : now.length - 1 < d ∨ ¬ Dv M now (cand M d n)) (hG : ∀ k, G' k → G k) : FiN M L B w d (n + 1) G' now ov wr := by
  obtain ⟨acc, L', pn, cn, q1, q2, q3, q4, q5, q6, q⟩ := h
  exact ⟨acc, L', pn, cn, q1, q2, q3, q4, q5.weak (fun k hk => by rcases hk with h | h | h; exact .inl h; exact .inr (.inl h); exact .inr (.inr (hG k h))), fi_miss q6 h1 h2, q⟩
theorem FiN.fresh {M B d n : Nat} {G : Nat → Prop} {L : List (List Int)} {w wr : World} {now : List Int} {ov : Value} (h : FiN M L B w d n G now ov wr) : FiN M L B w d n (fun k => wr.heap.size ≤ k) now ov wr := by
  obtain ⟨acc, L', pn, cn, q1, q2, q3, q4, q5, q⟩ := h
  exact ⟨acc, L', pn, cn, q1, q2, q3, q4, q5.fresh.weak (fun k hk => by rcases hk with h | h | h; exact .inl (.inl h); exact .inl (.inr (.inl h)); exact .inr h), q⟩
theorem FiN.weak {M B d n : Nat} {G G' : Nat → Prop} {L : List (List Int)} {w wr : World} {now : List Int} {ov : Value} (h : FiN M L B w d n G now ov wr) (hG : ∀ k, G' k → G k) : FiN M L B w d n G' now ov wr := by
  obtain ⟨acc, L', pn, cn, q1, q2, q3, q4, q5, q⟩ := h
  exact ⟨acc, L', pn, cn, q1, q2, q3, q4, q5.weak (fun k hk => by rcases hk with h | h | h; exact .inl h; exact .inr (.inl h); exact .inr (.inr (hG k h))), q⟩
/-- The next degree. -/
theorem FiN.up {M B d n : Nat} {G : Nat → Prop} {L : List (List Int)} {w wr : World} {now : List Int} {ov : Value} (h : FiN M L B w d n G now ov wr) (hn : n = M ^ d) : FiO M L B w (d + 1) ov wr := by
  obtain ⟨acc, L', pn, cn, q1, q2, q3, q4, q5, q6, q7, q8, q9, q10⟩ := h
  exact ⟨now, acc, L', pn, cn, q1, q2, q3, q4, q5.weak (fun k hk => by rcases hk with h | h; exact .inl h; exact .inr (.inl h)), fi_up q6 hn, fi_stop q6 hn, q7, q8, q9, q10⟩
theorem below_blk {B B0 : Nat} {W w' : World} (hb : Below B0 W w') (h : ∀ k, k < B → w'.heap[k]? = W.heap[k]?) : Below B W w' := ⟨hb.os, hb.tape, hb.output, hb.size, h⟩
theorem RowX.ge {T : TypeId} {w : World} {B g n cap : Nat} {X : Nat → Prop} {ls : List (List Int)} (h : RowX T w B X (.slice (some ⟨g, 0, none⟩) n cap) ls) : B ≤ g := by
  obtain ⟨g', cap', f, c, hv, hr, _⟩ := h
  rw [hv] at hr
  simp only [Value.slice.injEq, Option.some.injEq, Addr.mk.injEq, and_true] at hv
  have := (ownsRow_open hr).2.2.1
  omega
/-- The list of factors, of the call's own and of the argument. -/
def RLsB (B : Nat) (L : List (List Int)) (w : World) (e : Ending) (w' : World) : Prop := ∃ v, e = .returned v ∧ OwWs w' B w'.heap.size v L ∧ Below w.heap.size w w'

set_option maxRecDepth 100000 in
set_option maxHeartbeats 16000000 in
theorem factorsOver_impl (va : Value) (a now0 : List Int) (M B : Nat) (L : List (List Int)) (w : World) (ha : OwI w B va now0) (hB : B ≤ w.heap.size) (hf : FacA M a L) (hmo : monicS M a = now0) : Calls Try.prog 118 #[.agg #[va], .int .i64 M] w (RLsB B L w) := by
  have Ha := Lib.hid ha
  have Hm := Lib.hid hf.hm
  have hM := primeB_bd hf.hm
  have Hmn := Lib.hid (show Mon M now0 by rw [← hmo]; exact hf.mon)
  have hlen : now0.length = a.length := by rw [← hmo, monicS_length]
  have ha2 : 2 ≤ now0.length := by rw [hlen]; exact hf.l2
  have ha7 : now0.length ≤ 7 := by rw [hlen]; exact hf.l7
  have HL := Lib.hid hf.srt
  have hL6 := hf.l6
  have HF := Lib.hid (show (2 * 1 ≤ now0.length - 1 → Fi M 1 0 now0 L) ∧ (now0.length - 1 < 2 * 1 → L = if 1 < now0.length then [now0] else []) from ⟨fun h => by rw [← hmo]; exact hf.fi (by rw [← hlen]; omega), fun h => by rw [← hmo]; exact fs_stop hf.fs (by rw [hmo]; omega)⟩)
  obtain ⟨pn0, cn0, rfl, hpB, hps, _, _, _⟩ := ha.open Hmn.out.ov.ne
  clear ha hf hmo hlen
  go_enter Try.func118, Try.ntmps118
  go_wp2_with fail
  go_loopw [5, 6] (fun ov iv wr => ∃ d : Nat, 1 ≤ d ∧ d ≤ 4 ∧ iv = .int .i64 d ∧ FiO M L B w d ov wr) (fun _ iv _ => 5 - (intOf iv).toNat)
  case atStart =>
    refine ⟨1, Nat.le_refl _, by omega, rfl, now0, [], L, pn0, cn0, by go_simp, by go_simp, Ha.out.below (by (repeat' (first | (with_reducible exact Below.refl _ _) | (with_reducible assumption) | (with_reducible refine Below.alloc ?_ ?_ _) | (with_reducible refine Below.setCell ?_ ?_ _) | (with_reducible refine Below.drew ?_) | (with_reducible refine Below.via (by assumption) ?_ ?_) | go_size))), by omega, RowX.empty (by simp) (by first | omega | (simp; omega)) (by first | omega | (simp; omega)), HF.out.1, HF.out.2, rfl, Hmn.out, by omega, by (repeat' (first | (with_reducible exact Below.refl _ _) | (with_reducible assumption) | (with_reducible refine Below.alloc ?_ ?_ _) | (with_reducible refine Below.setCell ?_ ?_ _) | (with_reducible refine Below.drew ?_) | (with_reducible refine Below.via (by assumption) ?_ ?_) | go_size))⟩
  case round =>
    obtain ⟨d, hd1, hd4, rfl, now, acc, L', pn, cn, x0, y0, hown, hpb, hrow, hfi, hst, hacc, hmon, hl7, hbel⟩ := hrel
    have Hown := Lib.hid hown
    have Hrow := Lib.hid hrow
    have Hfi := Lib.hid hfi
    have Hst := Lib.hid hst
    have Hacc := Lib.hid hacc
    have Hmon := Lib.hid hmon
    have Hbel := Lib.hid hbel
    have s0 := World.block_lt_of_cell? _ _ x0
    simp only at s0
    have hl1 := hmon.ov.trd.1
    obtain ⟨gR, cR, rfl⟩ := hrow.shape
    clear hown hrow hfi hst hacc hmon hbel
    have hw1 : IntKind.i64.wrap (2 * (d : Int)) = 2 * (d : Int) := IntWalk.i64_in _ ⟨by omega, by omega⟩
    have hw3 : IntKind.i64.wrap ((d : Int) + 1) = (d : Int) + 1 := IntWalk.i64_in _ ⟨by omega, by omega⟩
    have hw4 : IntKind.i64.wrap ((d : Int) - 1) = (d : Int) - 1 := IntWalk.i64_in _ ⟨by omega, by omega⟩
    by_cases h2 : 2 * d ≤ now.length - 1
    · have h2' : 2 * (d : Int) ≤ (now.length : Int) - 1 := by omega
      have hd3 : d ≤ 3 := by omega
      have HN0 := Lib.hid (show FiN M L B w d 0 (fun _ => False) now (.slice (some ⟨gR, 0, none⟩) acc.length cR) wr from ⟨acc, L', pn, cn, x0, y0, Hown.out, hpb, Hrow.out.weak (fun k hk => by rcases hk with h | h | h; exact .inl h; exact .inr h; exact h.elim), Hfi.out h2, Hacc.out, Hmon.out, hl7, Hbel.out⟩)
      clear Hown Hrow Hfi Hst Hacc Hmon Hbel
      go_wp2_with fail
      (go_at_call 79; ((with_reducible refine (degree_exact (some ⟨pn, 0, none⟩) now.length cn _ (by omega)).mono ?_); rintro e w' ⟨rfl, rfl⟩))
      generalize hdgwA : World.alloc wr _ = wA
      have BdwA := Lib.hid (show Below wr.heap.size wr wA by rw [← hdgwA]; exact (Below.refl _ _).alloc (Nat.le_refl _) _)
      clear hdgwA
      have HN := Lib.hid (HN0.out.below BdwA.out)
      clear HN0 BdwA x0 y0 s0 hpb
      go_wp2_with fail
      go_loopw [7, 25] (fun mv iv wx => ∃ i P : Nat, i ≤ d ∧ P = M ^ i ∧ iv = .int .i64 i ∧ mv = .int .i64 P ∧ wx = wA) (fun _ iv _ => d - (intOf iv).toNat)
      case atStart => exact ⟨0, 1, Nat.zero_le _, (by simp), (by first | rfl | trivial), (by first | rfl | trivial), (by first | rfl | trivial)⟩
      case round =>
        obtain ⟨i, P, hi, hP, rfl, rfl, rfl⟩ := hrel
        have HP := Lib.hid hP
        have hPb := pow_bd (M := M) (i := i) (by omega) (by omega) (by omega)
        rw [← hP] at hPb
        clear hP
        by_cases hid : i < d
        · have hid' : (i : Int) < (d : Int) := by omega
          have hPb2 := pow_bd (M := M) (i := i + 1) (by omega) (by omega) (by omega)
          have hP1 : P * M = M ^ (i + 1) := by rw [HP.out, Nat.pow_succ]
          have HP1 := Lib.hid hP1
          rw [← hP1] at hPb2
          have hw5 : IntKind.i64.wrap ((P : Int) * (M : Int)) = ((P * M : Nat) : Int) := by rw [Int.natCast_mul]; exact IntWalk.i64_in _ ⟨by rw [← Int.natCast_mul]; omega, by rw [← Int.natCast_mul]; omega⟩
          clear hP1
          generalize P * M = P1 at *
          go_wp2_with fail
          go_roundw
          case rel => exact ⟨i + 1, P1, by omega, HP1.out, by go_num, (by first | rfl | trivial), (by first | rfl | trivial)⟩
          case measure => simp [intOf]; omega
        · obtain rfl : i = d := by omega
          go_wp2_with fail
          have HPd := Lib.hid HP.out
          clear hid HP
          have hKb : P ≤ 2197 := hPb
          generalize hKK : P = K at *
          clear hKK
          go_loopw [5, 32] (fun ov nv wx => ∃ (n : Nat) (now : List Int), n ≤ K ∧ nv = .int .i64 n ∧ FiN M L B w i n (fun _ => False) now ov wx) (fun _ nv _ => K - (intOf nv).toNat)
          case atStart => exact ⟨0, now, Nat.zero_le _, (by first | rfl | trivial), HN.out⟩
          case round =>
            clear HN
            rename World => wx
            obtain ⟨n, now, hn, rfl, hN⟩ := hrel
            have HN := Lib.hid hN
            obtain ⟨acc, L', pn, cn, x0, y0, hown, hpb, hrow, hfi, hacc, hmon, hl7, hbel⟩ := hN
            obtain ⟨gR, cR, rfl⟩ := hrow.shape
            have hsz := hbel.size
            have s0 := World.block_lt_of_cell? _ _ x0
            simp only at s0
            clear hown hpb hrow hfi hacc hmon hl7 hbel x0 y0

            by_cases hlt : n < K
            · have hlt' : (n : Int) < (K : Int) := by omega
              have hwn : IntKind.i64.wrap ((n : Int) + 1) = (n : Int) + 1 := IntWalk.i64_in _ ⟨by omega, by omega⟩
              have HnK := Lib.hid (show n < M ^ i by rw [← HPd.out]; exact hlt)
              go_wp2_with (at_make; refine wpList_makeI _ rfl _ _ _ rfl int64S_under _ _ (i + 1) rfl rfl (by omega) (by omega) (by omega) ?_; intro w2 hr2 hbl2 hlt2)
              rw [dgs_start M i n] at hr2
              have Hr2 := Lib.hid hr2
              have Hbl2 := Lib.hid hbl2
              have z2 := hbl2.size
              clear hr2 hbl2
              go_loopw [10, 11] (fun lv kv wy => ∃ k R : Nat, k ≤ i ∧ R = n % M ^ k ∧ kv = .int .i64 ((k : Int) - 1) ∧ lv = .int .i64 R ∧ RowI wy wx.heap.size (.slice (some ⟨wx.heap.size, 0, none⟩) (i + 1) (i + 1)) (dgs M i n k) ∧ Only wx.heap.size (wx.heap.size + 1) w2 wy) (fun _ kv _ => (intOf kv + 1).toNat)
              case atStart => exact ⟨i, n, Nat.le_refl _, (Nat.mod_eq_of_lt HnK.out).symm, (by first | rfl | trivial), (by first | rfl | trivial), Hr2.out, Only.refl _ _ _⟩
              case round =>
                rename World => wy
                obtain ⟨k, R, hk, hR, rfl, rfl, hrow, honly⟩ := hrel
                have HR := Lib.hid hR
                have Hrow := Lib.hid hrow
                have Honly := Lib.hid honly
                have hRK : R ≤ 3000 := by rw [hR]; exact Nat.le_trans (Nat.mod_le _ _) (by omega)
                have hzy := honly.size
                clear hR hrow honly
                rcases Nat.eq_zero_or_pos k with h0 | h0
                · subst h0
                  have c1 := Hrow.out.cell (j := i) (by rw [dgs_length]; omega)
                  have c2 := Hrow.out.frozen i
                  have HX := Lib.hid (show RowI (wy.setCell ⟨wx.heap.size, i, none⟩ (.int .i64 1)) wx.heap.size (.slice (some ⟨wx.heap.size, 0, none⟩) (i + 1) (i + 1)) (cand M i n) by rw [← dgs_end]; exact Hrow.out.set i 1)
                  have HO := Lib.hid (Honly.out.setCell (p := ⟨wx.heap.size, i, none⟩) (Nat.le_refl _) (Nat.lt_succ_self _) (.int .i64 1))
                  have hii : (i : Int) < (i : Int) + 1 := by omega
                  have hii2 : i < i + 1 := Nat.lt_succ_self i
                  clear HR Hrow Honly
                  rw [show ((0 : Nat) : Int) - 1 = -1 by rfl]
                  have HNy := Lib.hid (HN.out.fresh.below (Hbl2.out.trans (HO.out.toBelow (Nat.le_refl _) (by omega))))
                  have zy : wx.heap.size ≤ (wy.setCell ⟨wx.heap.size, i, none⟩ (.int .i64 1)).heap.size := by simp; omega
                  have hgtl := HX.out.lt
                  generalize hyy : wy.setCell ⟨wx.heap.size, i, none⟩ (.int .i64 1) = yy at *
                  go_wp2_with fail
                  (try rw [hyy])
                  clear hyy c1 c2 hii hii2 HO Hbl2 hlt2 z2 hzy hw3 hw4 hwn
                  have HXz := Lib.hid (HX.out.alloc (.cells #[.slice (some ⟨wx.heap.size, 0, none⟩) (i + 1) (i + 1)] 27))
                  have HNz := Lib.hid (HNy.out.below ((Below.refl _ _).alloc (Nat.le_refl _) (.cells #[.slice (some ⟨wx.heap.size, 0, none⟩) (i + 1) (i + 1)] 27)))
                  have X13 := Lib.hid (show (World.alloc yy (.cells #[.slice (some ⟨wx.heap.size, 0, none⟩) (i + 1) (i + 1)] 27)).cell? ⟨yy.heap.size, 0, none⟩ = some (.slice (some ⟨wx.heap.size, 0, none⟩) (i + 1) (i + 1)) from World.cell?_alloc_new yy _ _ 0)
                  generalize hzz : World.alloc yy (.cells #[.slice (some ⟨wx.heap.size, 0, none⟩) (i + 1) (i + 1)] 27) = zz at *
                  generalize yy.heap.size = g13 at *
                  generalize hgt : wx.heap.size = gt at *
                  have HN0 := Lib.hid (HNz.out.weak (G' := fun k => k = gt ∨ k = g13) (fun k hk => by rcases hk with rfl | rfl <;> omega))
                  have hzx : gt < g13 := hgtl
                  have hwg := s0
                  clear hzz HX HNy HNz zy hgt HN s0
                  go_loopg [5] (now.length) (fun g ov wr => ∃ now, FiN M L B w i n (fun k => k = gt ∨ k = g13) now ov wr ∧ RowI wr w.heap.size (.slice (some ⟨gt, 0, none⟩) (i + 1) (i + 1)) (cand M i n) ∧ wr.cell? ⟨g13, 0, none⟩ = some (.slice (some ⟨gt, 0, none⟩) (i + 1) (i + 1)) ∧ g = now.length)
                  case atStart => exact ⟨now, HN0.out, HXz.out.mono (by omega), X13.out, rfl⟩
                  case round =>
                    clear HN0 HXz X13
                    rename World => wv
                    obtain ⟨now, hN, hrt, x13, hg⟩ := hrel
                    have HN := Lib.hid hN
                    obtain ⟨acc, L', pn, cn, x0, y0, hown, hpb, hrow, hfi, hacc, hmon, hl7, hbel⟩ := hN
                    have Hown := Lib.hid hown
                    have Hrow := Lib.hid hrow
                    have Hfi := Lib.hid hfi
                    have Hacc := Lib.hid hacc
                    have Hmon := Lib.hid hmon
                    have Hbel := Lib.hid hbel
                    have Hrt := Lib.hid hrt
                    have Hg := Lib.hid hg
                    obtain ⟨gR, cR, rfl⟩ := hrow.shape
                    have hlR := hrow.lt
                    have hnR := hrow.ne
                    have hgR := hrow.ge
                    have hpl := hown.cases1.2.2.1
                    have hl1 := hmon.ov.trd.1
                    have s0 := World.block_lt_of_cell? _ _ x0
                    have s13 := World.block_lt_of_cell? _ _ x13
                    simp only at s0 s13
                    have sgt := hrt.lt
                    have hcl := cand_length M i n
                    have Hcl := Lib.hid hcl
                    clear hown hrow hfi hacc hmon hbel hrt hg hcl
                    by_cases hdg : i ≤ now.length - 1
                    · have hdg' : (i : Int) ≤ (now.length : Int) - 1 := by omega
                      go_wp2_with fail
                      (go_at_call 79; ((with_reducible refine (degree_exact (some ⟨pn, 0, none⟩) now.length cn _ (by omega)).mono ?_); rintro e w' ⟨rfl, rfl⟩))
                      generalize hdgwA : World.alloc wv _ = wA
                      have BdwA := Lib.hid (show Below wv.heap.size wv wA by rw [← hdgwA]; exact (Below.refl _ _).alloc (Nat.le_refl _) _)
                      clear hdgwA
                      have x0A := (BdwA.out.cell (p := ⟨w.heap.size, 0, none⟩) s0).trans x0
                      have y0A := (BdwA.out.frozen (p := ⟨w.heap.size, 0, none⟩) s0).trans y0
                      have x13A := (BdwA.out.cell (p := ⟨g13, 0, none⟩) s13).trans x13
                      have zA := BdwA.out.size
                      have cm := Lib.hid (cand_mon (M := M) (n := n) Hm.out (show i ≤ 99 by omega))
                      have HrtA := Lib.hid (Hrt.out.below BdwA.out)
                      have HownA := Lib.hid (Hown.out.below BdwA.out)
                      clear x0 y0 x13
                      go_wp2_with fail
                      (go_at_call 88; ((with_reducible refine (divide_impl2 _ _ now (cand M i n) M _ HownA.out.rd HrtA.out.own.rd Hm.out Hmon.out.ov cm.out.ov).mono ?_); rintro e w4 ⟨vq, vr, rfl, oq, or, hb4⟩))
                      have z4 := hb4.size
                      have x04 := (hb4.cell (p := ⟨w.heap.size, 0, none⟩) (show w.heap.size < wA.heap.size by omega)).trans x0A
                      have y04 := (hb4.frozen (p := ⟨w.heap.size, 0, none⟩) (show w.heap.size < wA.heap.size by omega)).trans y0A
                      have x134 := (hb4.cell (p := ⟨g13, 0, none⟩) (show g13 < wA.heap.size by omega)).trans x13A
                      clear x0A y0A x13A
                      have Bv4 := Lib.hid (BdwA.out.trans (hb4.mono zA))
                      have Hor := Lib.hid or
                      have hlr := (divF_ovr Hm.out Hmon.out.ov cm.out.ov (cand_zero hd1)).2.1.len
                      have Hlr := Lib.hid hlr
                      clear hlr HrtA HownA BdwA hb4
                      obtain ⟨ar, cr, rfl⟩ := or.rd.shape
                      by_cases hdv : Dv M now (cand M i n)
                      · have Hdv := Lib.hid hdv
                        have Hz := Lib.hid (show zeroB (divF now (cand M i n) M).2 = true by rw [dv_zero]; exact decide_eq_true hdv)
                        have Hq := Lib.hid (quo_mon Hm.out Hmon.out cm.out hdv)
                        have Hft := Lib.hid (fi_hit Hfi.out HnK.out hdg hdv)
                        have Hoq := Lib.hid (show OwI w4 wA.heap.size vq (quo M now (cand M i n)) from oq)
                        obtain ⟨pq, nq, heq, hBq, hsq, _, _, _⟩ := Hoq.out.open Hq.out.1.ov.ne
                        subst heq
                        have hql := (show (quo M now (cand M i n)).length = (divF now (cand M i n) M).1.length from rfl)
                        have Hql := Lib.hid hql
                        clear hdv oq or hql
                        go_wp2_with fail
                        (go_at_call 93; ((with_reducible refine (noWhole_impl _ (divF now (cand M i n) M).2 _ (Hor.out.rd.below (by (repeat' (first | (with_reducible exact Below.refl _ _) | (with_reducible assumption) | (with_reducible refine Below.alloc ?_ ?_ _) | (with_reducible refine Below.setCell ?_ ?_ _) | (with_reducible refine Below.drew ?_) | (with_reducible refine Below.via (by assumption) ?_ ?_) | go_size)))) (by have := Hlr.out; omega)).mono ?_); rintro e w6 ⟨rfl, hb6⟩))
                        rw [Hz.out]
                        have z6 := hb6.size
                        simp only [World.size_alloc] at z6
                        have x146 := (hb6.cell (p := ⟨w4.heap.size, 0, none⟩) (by simp only [World.size_alloc]; omega)).trans (show ((w4.alloc (.cells #[.slice (some ⟨pq, 0, none⟩) (quo M now (cand M i n)).length nq] 27)).alloc (.cells #[.slice ar (divF now (cand M i n) M).2.length cr] 27)).cell? ⟨w4.heap.size, 0, none⟩ = some (.slice (some ⟨pq, 0, none⟩) (quo M now (cand M i n)).length nq) by go_simp)
                        have B46 := Lib.hid (show Below w4.heap.size w4 w6 by (repeat' (first | (with_reducible exact Below.refl _ _) | (with_reducible assumption) | (with_reducible refine Below.alloc ?_ ?_ _) | (with_reducible refine Below.setCell ?_ ?_ _) | (with_reducible refine Below.drew ?_) | (with_reducible refine Below.via (by assumption) ?_ ?_) | go_size)))
                        have x06 := (B46.out.cell (p := ⟨w.heap.size, 0, none⟩) (show w.heap.size < w4.heap.size by omega)).trans x04
                        have y06 := (B46.out.frozen (p := ⟨w.heap.size, 0, none⟩) (show w.heap.size < w4.heap.size by omega)).trans y04
                        have x136 := (B46.out.cell (p := ⟨g13, 0, none⟩) (show g13 < w4.heap.size by omega)).trans x134
                        have Bv6 := Lib.hid (Bv4.out.trans (B46.out.mono (by omega)))
                        have Hrt6 := Lib.hid (Hrt.out.below Bv6.out)
                        have Hoq6 := Lib.hid (Hoq.out.below B46.out)
                        clear hb6 x04 y04 x134 B46 Hoq Hrt Hor Bv4
                        go_wp2_with fail
                        (go_at_call 94; ((with_reducible refine (clone_impl _ (cand M i n) _ Hrt6.out.own.rd cm.out.ov.ne (by have := Hcl.out; omega)).mono ?_); rintro e w7 ⟨g7, cap7, rfl, hg7, hr7, hb7⟩))
                        have z7 := hb7.size
                        have hl7b := hr7.lt
                        have x07 := (hb7.cell (p := ⟨w.heap.size, 0, none⟩) (show w.heap.size < w6.heap.size by omega)).trans x06
                        have y07 := (hb7.frozen (p := ⟨w.heap.size, 0, none⟩) (show w.heap.size < w6.heap.size by omega)).trans y06
                        have x137 := (hb7.cell (p := ⟨g13, 0, none⟩) (show g13 < w6.heap.size by omega)).trans x136
                        have x147 := (hb7.cell (p := ⟨w4.heap.size, 0, none⟩) (show w4.heap.size < w6.heap.size by omega)).trans x146
                        have Bv7 := Lib.hid (Bv6.out.trans (hb7.mono (by omega)))
                        have Hrt7 := Lib.hid (Hrt6.out.below hb7)
                        have Hoq7 := Lib.hid (Hoq6.out.below hb7)
                        have Hr7 := Lib.hid (hr7.own.mono (B' := w.heap.size) (by omega))
                        have HR7 := Lib.hid (show RowX 27 w7 w.heap.size (fun k => k = pq ∨ k = w.heap.size ∨ k = gt ∨ k = g13 ∨ k = g7) (.slice (some ⟨gR, 0, none⟩) acc.length cR) acc from (Hrow.out.fresh.below Bv7.out).weak (fun k hk => (by rcases hk with rfl | rfl | rfl | rfl | rfl; exact .inr (by omega); exact .inl (.inr (.inl rfl)); exact .inl (.inr (.inr (.inl rfl))); exact .inl (.inr (.inr (.inr rfl))); exact .inr (by omega))))
                        have hacl : acc.length ≤ 6 := by have h := congrArg List.length Hacc.out; rw [List.length_append] at h; omega
                        clear hr7 hb7 x06 y06 x136 x146 Bv6 Hrt6 Hoq6
                        have n1 : gR ≠ w.heap.size := fun h => hnR (.inr (.inl h))
                        have n2 : gR ≠ gt := fun h => hnR (.inr (.inr (.inl h)))
                        have n3 : gR ≠ g13 := fun h => hnR (.inr (.inr (.inr h)))
                        go_wp2_with (at_builtin; refine wpList_pushX (X := fun k => k = pq ∨ k = w.heap.size ∨ k = gt ∨ k = g13 ∨ k = g7) (X' := fun k => k = pq ∨ k = w.heap.size ∨ k = gt ∨ k = g13) infoW (by decide) HR7.out (Or.inr (Or.inr (Or.inr (Or.inr rfl)))) (fun h => (by rcases h with h | h | h | h <;> omega)) (fun k hk => (by rcases hk with rfl | rfl | rfl | rfl; exact ⟨.inl rfl, by omega⟩; exact ⟨.inr (.inl rfl), by omega⟩; exact ⟨.inr (.inr (.inl rfl)), by omega⟩; exact ⟨.inr (.inr (.inr (.inl rfl))), by omega⟩)) Hr7.out rfl _ _ rfl wholeS_under (by omega) (by omega) rfl rfl rfl ?_; intro v8 w8 hr8 hb8 hk8 hq8; have hk9 := (fun k (h1 : k < w7.heap.size) (h2 : k ≠ gR) => hk8 k h1 (by simp only [Value.ownBlock, ne_eq, Option.some.injEq]; omega)); have x08 := (World.cell?_of_block (a := ⟨w.heap.size, 0, none⟩) (hk9 w.heap.size (by omega) (by omega))).trans x07; have x148 := (World.cell?_of_block (a := ⟨w4.heap.size, 0, none⟩) (hk9 w4.heap.size (by omega) (by omega))).trans x147; have x138 := (World.cell?_of_block (a := ⟨g13, 0, none⟩) (hk9 g13 (by omega) (by omega))).trans x137; have y08 := (World.frozen?_of_block (a := ⟨w.heap.size, 0, none⟩) (hk9 w.heap.size (by omega) (by omega))).trans y07; have Hk9 := Lib.hid hk9; have Hr8 := Lib.hid hr8; have Hb8 := Lib.hid hb8; have z8 := hb8.size; obtain ⟨g8, c8, rfl⟩ := hr8.shape; clear hk8 hk9 hr8 hb8 hq8 x07 y07 x147 x137)
                        go_roundg ((quo M now (cand M i n)).length)
                        case measure => have h1 := Hg.out; have h3 := Hq.out.2; rw [Hcl.out] at h3; omega
                        case rel =>
                          obtain ⟨L2, hL2, hf2⟩ := Hft.out
                          have HS := (Only.refl w.heap.size (w.heap.size + 1) w8).setCell (p := ⟨w.heap.size, 0, none⟩) (Nat.le_refl _) (Nat.lt_succ_self _) (.slice (some ⟨pq, 0, none⟩) (quo M now (cand M i n)).length nq)
                          refine ⟨quo M now (cand M i n), ⟨acc ++ [cand M i n], L2, pq, nq, World.cell?_setCell_same _ _ _ x08, ?_, ?_, by omega, ?_, hf2, ?_, Hq.out.1, ?_, ?_⟩, ?_, ?_, rfl⟩
                          · rw [World.frozen?_setCell]; exact y08
                          · exact OwI.setOther (((Hoq7.out.block (Hk9.out pq (by omega) (by omega)))).mono (by omega)) (fun q n c h => by simp only [Value.slice.injEq, Option.some.injEq] at h; rw [← h.1]; simp only; omega) _
                          · have h := Hr8.out.only HS (Or.inr (Or.inl rfl))
                            rw [show (acc ++ [cand M i n]).length = acc.length + 1 by simp] at h
                            exact h
                          · rw [List.append_assoc]; have h := Hacc.out; rw [hL2] at h; exact h
                          · have h3 := Hq.out.2; rw [Hcl.out] at h3; omega
                          · exact Below.setCell ((Hbel.out.trans (Bv7.out.mono (by omega))).trans Hb8.out) (by simp only; omega) _
                          · exact RowI.setOther (RowI.blk Hrt7.out (Hk9.out gt (by omega) (by omega))) (by simp only; omega) _
                          · rw [cell_other (by omega)]; exact x138
                      · have Hdv := Lib.hid hdv
                        have Hz := Lib.hid (show zeroB (divF now (cand M i n) M).2 = false by rw [dv_zero]; exact decide_eq_false hdv)
                        obtain ⟨aq, cq, rfl⟩ := oq.rd.shape
                        clear hdv oq or
                        go_wp2_with fail
                        (go_at_call 93; ((with_reducible refine (noWhole_impl _ (divF now (cand M i n) M).2 _ (Hor.out.rd.below (by (repeat' (first | (with_reducible exact Below.refl _ _) | (with_reducible assumption) | (with_reducible refine Below.alloc ?_ ?_ _) | (with_reducible refine Below.setCell ?_ ?_ _) | (with_reducible refine Below.drew ?_) | (with_reducible refine Below.via (by assumption) ?_ ?_) | go_size)))) (by have := Hlr.out; omega)).mono ?_); rintro e w6 ⟨rfl, hb6⟩))
                        rw [Hz.out]
                        go_wp2_with fail
                        go_roundw
                        case rel => exact ⟨n + 1, now, by omega, by go_num, (HN.out.miss HnK.out (.inr Hdv.out) (fun k hk => hk.elim)).below (by have h := Bv4.out; (repeat' (first | (with_reducible exact Below.refl _ _) | (with_reducible assumption) | (with_reducible refine Below.alloc ?_ ?_ _) | (with_reducible refine Below.setCell ?_ ?_ _) | (with_reducible refine Below.drew ?_) | (with_reducible refine Below.via (by assumption) ?_ ?_) | go_size)))⟩
                        case measure => simp [intOf]; omega
                    · have hdg' : ¬ ((i : Int) ≤ (now.length : Int) - 1) := by omega
                      go_wp2_with fail
                      (go_at_call 79; ((with_reducible refine (degree_exact (some ⟨pn, 0, none⟩) now.length cn _ (by omega)).mono ?_); rintro e w' ⟨rfl, rfl⟩))
                      generalize hdgwA : World.alloc wv _ = wA
                      have BdwA := Lib.hid (show Below wv.heap.size wv wA by rw [← hdgwA]; exact (Below.refl _ _).alloc (Nat.le_refl _) _)
                      clear hdgwA
                      go_wp2_with fail
                      go_roundw
                      case rel => exact ⟨n + 1, now, by omega, by go_num, (HN.out.miss HnK.out (.inl (by omega)) (fun k hk => hk.elim)).below BdwA.out⟩
                      case measure => simp [intOf]; omega
                · obtain ⟨l, rfl⟩ : ∃ l, k = l + 1 := ⟨k - 1, by omega⟩
                  have hkk : (((l + 1 : Nat) : Int) - 1) = (l : Int) := by omega
                  rw [hkk]
                  have hl0 : (0 : Int) ≤ (l : Int) := by omega
                  have hwl : IntKind.i64.wrap ((l : Int) - 1) = (l : Int) - 1 := IntWalk.i64_in _ ⟨by omega, by omega⟩
                  clear hkk
                  go_wp2_with fail
                  go_loopw [12, 46] (fun mv iv wz => ∃ j P : Nat, j ≤ l ∧ P = M ^ j ∧ iv = .int .i64 j ∧ mv = .int .i64 P ∧ wz = wy) (fun _ iv _ => l - (intOf iv).toNat)
                  case atStart => exact ⟨0, 1, Nat.zero_le _, (by simp), (by first | rfl | trivial), (by first | rfl | trivial), (by first | rfl | trivial)⟩
                  case round =>
                    obtain ⟨j, P, hj, hP, rfl, rfl, rfl⟩ := hrel
                    have HP := Lib.hid hP
                    have hPb := pow_bd (M := M) (i := j) (by omega) (by omega) (by omega)
                    have hP0 : 0 < M ^ j := Nat.pow_pos (by omega)
                    rw [← hP] at hPb hP0
                    clear hP
                    by_cases hjl : j < l
                    · have hjl' : (j : Int) < (l : Int) := by omega
                      have hPb2 := pow_bd (M := M) (i := j + 1) (by omega) (by omega) (by omega)
                      have hP1 : P * M = M ^ (j + 1) := by rw [HP.out, Nat.pow_succ]
                      have HP1 := Lib.hid hP1
                      rw [← hP1] at hPb2
                      have hw5 : IntKind.i64.wrap ((P : Int) * (M : Int)) = ((P * M : Nat) : Int) := by rw [Int.natCast_mul]; exact IntWalk.i64_in _ ⟨by rw [← Int.natCast_mul]; omega, by rw [← Int.natCast_mul]; omega⟩
                      clear hP1
                      generalize P * M = P1 at *
                      go_wp2_with fail
                      go_roundw
                      case rel => exact ⟨j + 1, P1, by omega, HP1.out, by go_num, (by first | rfl | trivial), (by first | rfl | trivial)⟩
                      case measure => simp [intOf]; omega
                    · obtain rfl : j = l := by omega
                      have HD := Lib.hid (show R / P = dg M n j by rw [HR.out, HP.out]; exact dg_mod M n j)
                      have HR2 := Lib.hid (show R % P = n % M ^ j by rw [HR.out, HP.out]; exact mod_mod_pow M n j)
                      have hq : (R : Int).tdiv (P : Int) = ((R / P : Nat) : Int) := rfl
                      have hr : (R : Int).tmod (P : Int) = ((R % P : Nat) : Int) := rfl
                      have hD9 : R / P ≤ R := Nat.div_le_self _ _
                      have hR9 : R % P ≤ R := Nat.mod_le _ _
                      generalize R / P = D at *
                      generalize R % P = R2 at *
                      have hw6 : IntKind.i64.wrap (D : Int) = (D : Int) := IntWalk.i64_in _ ⟨by omega, by omega⟩
                      have hP3 : (P : Int) ≠ 0 := by omega
                      have hP4 : ¬ (P : Int) = 0 := by omega
                      have hP5 : ¬ P = 0 := by omega
                      have hjj : (j : Int) < (i : Int) + 1 := by omega
                      have hjj2 : j < i + 1 := by omega
                      have c1 := Hrow.out.cell (j := j) (by rw [dgs_length]; omega)
                      have c2 := Hrow.out.frozen j
                      have HX := Lib.hid (show RowI (wr.setCell ⟨wx.heap.size, j, none⟩ (.int .i64 D)) wx.heap.size (.slice (some ⟨wx.heap.size, 0, none⟩) (i + 1) (i + 1)) (dgs M i n j) by rw [← dgs_step (show j < i by omega), ← HD.out]; exact Hrow.out.set j D)
                      have HO := Lib.hid (Honly.out.setCell (p := ⟨wx.heap.size, j, none⟩) (Nat.le_refl _) (Nat.lt_succ_self _) (.int .i64 D))
                      clear HD HR HP Hrow Honly
                      go_wp2_with fail
                      go_roundw
                      case rel => exact ⟨j, R2, by omega, HR2.out, by go_num, (by first | rfl | trivial), HX.out, HO.out⟩
                      case measure => simp [intOf]
            · obtain rfl : n = K := by omega
              go_wp2_with fail
              go_roundw
              case rel =>
                exact ⟨i + 1, by omega, by omega, by go_num, HN.out.up HPd.out⟩
              case measure => simp [intOf]; omega
    · have h2' : ¬ (2 * (d : Int) ≤ (now.length : Int) - 1) := by omega
      have hL' := Hst.out (by omega)
      rw [hL'] at Hacc
      clear hL' Hfi Hst
      go_wp2_with fail
      (go_at_call 79; ((with_reducible refine (degree_exact (some ⟨pn, 0, none⟩) now.length cn _ (by omega)).mono ?_); rintro e w' ⟨rfl, rfl⟩))
      generalize hdgwA : World.alloc wr _ = wA
      have BdwA := Lib.hid (show Below wr.heap.size wr wA by rw [← hdgwA]; exact (Below.refl _ _).alloc (Nat.le_refl _) _)
      clear hdgwA
      have x1 := (BdwA.out.cell (p := ⟨w.heap.size, 0, none⟩) s0).trans x0
      have y1 := (BdwA.out.frozen (p := ⟨w.heap.size, 0, none⟩) s0).trans y0
      have zA := BdwA.out.size
      have s1 : w.heap.size < wA.heap.size := by omega
      have HownA := Lib.hid (Hown.out.below BdwA.out)
      have HrowA := Lib.hid (Hrow.out.below BdwA.out)
      have HbelA := Lib.hid (Hbel.out.trans (BdwA.out.mono Hbel.out.size))
      clear Hown Hrow Hbel BdwA x0 y0
      go_wp2_with fail
      (go_at_call 79; ((with_reducible refine (degree_exact (some ⟨pn, 0, none⟩) now.length cn _ (by omega)).mono ?_); rintro e w' ⟨rfl, rfl⟩))
      generalize hdgwB : World.alloc wA _ = wB
      have BdwB := Lib.hid (show Below wA.heap.size wA wB by rw [← hdgwB]; exact (Below.refl _ _).alloc (Nat.le_refl _) _)
      clear hdgwB
      have x2 := (BdwB.out.cell (p := ⟨w.heap.size, 0, none⟩) s1).trans x1
      have zB := BdwB.out.size
      have HownB := Lib.hid (HownA.out.below BdwB.out)
      have HrowB := Lib.hid (HrowA.out.below BdwB.out)
      have HbelB := Lib.hid (HbelA.out.trans (BdwB.out.mono HbelA.out.size))
      clear HownA HrowA HbelA BdwB x1 y1
      have hbs := HbelB.out.size
      have haL := congrArg List.length Hacc.out
      rw [List.length_append] at haL
      have hgR := HrowB.out.ge
      by_cases h1 : 1 < now.length
      · have h1' : (1 : Int) ≤ (now.length : Int) - 1 := by omega
        rw [if_pos h1] at Hacc haL
        go_wp2_with (at_builtin; refine wpList_pushX (X := fun k => k = pn ∨ k = w.heap.size) (X' := fun _ => False) infoW (by decide) (HrowB.out.mono hB) (Or.inl rfl) id (fun k h => h.elim) HownB.out rfl _ _ rfl wholeS_under (by omega) (by omega) rfl rfl rfl ?_; intro v2 y2 hr2 hb2 hk2 hq2)
        have Hr2 := Lib.hid hr2
        have Hb2 := Lib.hid (below_blk (B := w.heap.size) hb2 (fun k hk => hk2 k (by omega) (by simp only [Value.ownBlock, ne_eq, Option.some.injEq]; omega)))
        have z2 := hb2.size
        obtain ⟨g2, c2, rfl⟩ := hr2.shape
        clear hr2 hk2 hq2
        go_wp2_with fail
        (go_at_call 142; ((with_reducible refine (sort_impl _ (acc ++ [now]) _ (Hr2.out.own.rd) (by rw [Hacc.out]; exact HL.out) (by rw [Hacc.out]; omega)).mono ?_); rintro e w3 ⟨⟨r3, rfl⟩, hb3⟩))
        have Hb3 := Lib.hid hb3
        have z3 := hb3.size
        clear hb3
        go_wp2_with fail
        go_ret
        have hO := (Hr2.out.below Hb3.out).own
        exact ⟨.slice (some ⟨g2, 0, none⟩) (acc.length + 1) c2, rfl, by rw [← Hacc.out, show acc.length + 1 = (acc ++ [now]).length by simp]; exact hO, (HbelB.out.trans Hb2.out).trans (Hb3.out.mono (by omega))⟩
      · have h1' : ¬ ((1 : Int) ≤ (now.length : Int) - 1) := by omega
        rw [if_neg h1] at Hacc haL
        have hacc2 : acc = L := by have h := Hacc.out; rwa [List.append_nil] at h
        subst hacc2
        go_wp2_with fail
        (go_at_call 142; ((with_reducible refine (sort_impl _ acc _ (HrowB.out.own.rd) HL.out (by omega)).mono ?_); rintro e w3 ⟨⟨r3, rfl⟩, hb3⟩))
        have Hb3 := Lib.hid hb3
        have z3 := hb3.size
        clear hb3
        go_wp2_with fail
        go_ret
        exact ⟨_, rfl, ((HrowB.out.mono hB).below Hb3.out).own, HbelB.out.trans (Hb3.out.mono (by omega))⟩

end Go.Proofs.Ytlnjkjogedbhfaa

/- FactorsOver of the program. Conditions: lengths of at most 2^40. -/
namespace Go.Proofs.Ytlnjkjogedbhfaa
open Go Go.RowKit
set_option linter.unusedSimpArgs false
set_option linter.unusedVariables false

set_option maxRecDepth 100000 in
set_option maxHeartbeats 4000000 in
theorem FactorsOver_impl (va : Value) (a : List Int) (m : Int) (w : World) (ha : RdI w va a) (hla : a.length ≤ 1099511627776) : Calls Try.prog 48 #[.agg #[va], .int .i64 m] w (RetWs (facR m a) w) := by
  have Ha := Lib.hid ha
  obtain ⟨aoa, ca, rfl⟩ := ha.shape
  clear ha
  cases hq : overB m a
  · have Ho := Lib.hid (show facR m a = none by unfold facR facOk; rw [hq]; rfl)
    have Hq := Lib.hid (show areOverB m [a] = false by rw [areOverB_one]; exact hq)
    clear hq
    go_enter Try.func48, Try.ntmps48
    go_wp2_with fail
    (go_at_call 78; ((with_reducible refine (areOver_impl _ [a] m _ (RdWs.lit1 (by simp) (Ha.out.below (by (repeat' (first | (with_reducible exact Below.refl _ _) | (with_reducible assumption) | (with_reducible refine Below.alloc ?_ ?_ _) | (with_reducible refine Below.setCell ?_ ?_ _) | (with_reducible refine Below.drew ?_) | (with_reducible refine Below.via (by assumption) ?_ ?_) | go_size))))) (by simp) (by intro i; rcases i with _ | i <;> simp; omega)).mono ?_); rintro e w1 ⟨rfl, hb1⟩))
    rw [Hq.out]
    have x1 := (hb1.cell (p := ⟨w.heap.size, 0, none⟩) (by simp; omega)).trans (show ((w.alloc (.cells #[.slice aoa a.length ca] 27)).alloc (.cells #[.slice aoa a.length ca] 27)).cell? ⟨w.heap.size, 0, none⟩ = some (.slice aoa a.length ca) by go_simp)
    have z1 := hb1.size
    simp only [World.size_alloc] at z1
    have l1 : w.heap.size < w1.heap.size := by omega
    go_wp2_with fail
    go_ret2
    rw [Ho.out]
    exact ⟨_, rfl, .inl ⟨rfl, rfl⟩, by (repeat' (first | (with_reducible exact Below.refl _ _) | (with_reducible assumption) | (with_reducible refine Below.alloc ?_ ?_ _) | (with_reducible refine Below.setCell ?_ ?_ _) | (with_reducible refine Below.drew ?_) | (with_reducible refine Below.via (by assumption) ?_ ?_) | go_size))⟩
  have Hq := Lib.hid (show areOverB m [a] = true by rw [areOverB_one]; exact hq)
  cases hin : inB 1 ((a.length : Int) - 1) 6
  · have Ho := Lib.hid (show facR m a = none by
      unfold facR facOk
      rw [hq]
      simp only [inB, Bool.and_eq_false_iff, decide_eq_false_iff_not] at hin
      rw [if_neg]
      simp only [Bool.true_and, Bool.and_eq_true, decide_eq_true_eq]
      omega)
    have Hin := Lib.hid hin
    clear hq hin
    go_enter Try.func48, Try.ntmps48
    go_wp2_with fail
    (go_at_call 78; ((with_reducible refine (areOver_impl _ [a] m _ (RdWs.lit1 (by simp) (Ha.out.below (by (repeat' (first | (with_reducible exact Below.refl _ _) | (with_reducible assumption) | (with_reducible refine Below.alloc ?_ ?_ _) | (with_reducible refine Below.setCell ?_ ?_ _) | (with_reducible refine Below.drew ?_) | (with_reducible refine Below.via (by assumption) ?_ ?_) | go_size))))) (by simp) (by intro i; rcases i with _ | i <;> simp; omega)).mono ?_); rintro e w1 ⟨rfl, hb1⟩))
    rw [Hq.out]
    have x1 := (hb1.cell (p := ⟨w.heap.size, 0, none⟩) (by simp; omega)).trans (show ((w.alloc (.cells #[.slice aoa a.length ca] 27)).alloc (.cells #[.slice aoa a.length ca] 27)).cell? ⟨w.heap.size, 0, none⟩ = some (.slice aoa a.length ca) by go_simp)
    have z1 := hb1.size
    simp only [World.size_alloc] at z1
    have l1 : w.heap.size < w1.heap.size := by omega
    go_wp2_with fail
    (go_at_call 79; ((with_reducible refine (degree_exact aoa a.length ca _ (by omega)).mono ?_); rintro e w' ⟨rfl, rfl⟩))
    go_wp2_with fail
    (go_at_call 95; ((with_reducible refine (within_impl _ _ _ _).mono ?_); rintro e w' ⟨rfl, rfl⟩))
    rw [Hin.out]
    go_wp2_with fail
    go_ret2
    rw [Ho.out]
    exact ⟨_, rfl, .inl ⟨rfl, rfl⟩, by (repeat' (first | (with_reducible exact Below.refl _ _) | (with_reducible assumption) | (with_reducible refine Below.alloc ?_ ?_ _) | (with_reducible refine Below.setCell ?_ ?_ _) | (with_reducible refine Below.drew ?_) | (with_reducible refine Below.via (by assumption) ?_ ?_) | go_size))⟩
  have hok : facOk m a = true := by
    unfold facOk
    rw [hq]
    simp only [inB, Bool.and_eq_true, decide_eq_true_eq] at hin ⊢
    exact ⟨⟨(by first | rfl | trivial), by omega⟩, by omega⟩
  have Ho := Lib.hid (show facR m a = some (facL m a) by rw [facR, if_pos hok])
  have hF := facL_all hok
  obtain ⟨hm, ho, _⟩ := overB_ovr hq
  have hm2 := primeB_bd hm
  have Hm := Lib.hid hm
  have Hov := Lib.hid ho
  have Hin := Lib.hid hin
  have hl7 := hF.l7
  have hl2 := hF.l2
  have Hmq := Lib.hid (monic_eq hm ho.ov ho.trd)
  clear hq hin hok hm ho
  obtain ⟨M, rfl⟩ : ∃ M : Nat, m = M := ⟨m.toNat, by omega⟩
  rw [Int.toNat_natCast] at hF
  have HF := Lib.hid hF
  clear hF
  go_enter Try.func48, Try.ntmps48
  go_wp2_with fail
  (go_at_call 78; ((with_reducible refine (areOver_impl _ [a] (M : Int) _ (RdWs.lit1 (by simp) (Ha.out.below (by (repeat' (first | (with_reducible exact Below.refl _ _) | (with_reducible assumption) | (with_reducible refine Below.alloc ?_ ?_ _) | (with_reducible refine Below.setCell ?_ ?_ _) | (with_reducible refine Below.drew ?_) | (with_reducible refine Below.via (by assumption) ?_ ?_) | go_size))))) (by simp) (by intro i; rcases i with _ | i <;> simp; omega)).mono ?_); rintro e w1 ⟨rfl, hb1⟩))
  rw [Hq.out]
  have x1 := (hb1.cell (p := ⟨w.heap.size, 0, none⟩) (by simp; omega)).trans (show ((w.alloc (.cells #[.slice aoa a.length ca] 27)).alloc (.cells #[.slice aoa a.length ca] 27)).cell? ⟨w.heap.size, 0, none⟩ = some (.slice aoa a.length ca) by go_simp)
  have z1 := hb1.size
  simp only [World.size_alloc] at z1
  have l1 : w.heap.size < w1.heap.size := by omega
  go_wp2_with fail
  (go_at_call 79; ((with_reducible refine (degree_exact aoa a.length ca _ (by omega)).mono ?_); rintro e w' ⟨rfl, rfl⟩))
  go_wp2_with fail
  (go_at_call 95; ((with_reducible refine (within_impl _ _ _ _).mono ?_); rintro e w' ⟨rfl, rfl⟩))
  rw [Hin.out]
  have l1b : w.heap.size < (w1.heap.size + 1) := by omega
  go_wp2_with fail
  (go_at_call 119; ((with_reducible refine (monic_impl _ a M _ (Ha.out.below (by (repeat' (first | (with_reducible exact Below.refl _ _) | (with_reducible assumption) | (with_reducible refine Below.alloc ?_ ?_ _) | (with_reducible refine Below.setCell ?_ ?_ _) | (with_reducible refine Below.drew ?_) | (with_reducible refine Below.via (by assumption) ?_ ?_) | go_size)))) Hov.out.ne (by omega) Hov.out.ov Hm.out).mono ?_); rintro e w2 ⟨v2, rfl, o2, hb2⟩))
  rw [Hmq.out] at o2
  have O2 := Lib.hid o2
  have z2 := hb2.size
  simp only [World.size_alloc] at z2
  obtain ⟨p2, n2, rfl⟩ := o2.rd.shape
  clear o2
  go_wp2_with fail
  (go_at_call 118; ((with_reducible refine (factorsOver_impl _ a (monicS M a) M _ (facL M a) _ O2.out (by simp only [World.size_alloc]; omega) HF.out rfl).mono ?_); rintro e w3 ⟨v3, rfl, o3, hb3⟩))
  have O3 := Lib.hid (o3.mono (lo' := w.heap.size) (by simp only [World.size_alloc]; omega))
  obtain ⟨p3, n3, rfl⟩ := o3.rd.shape
  clear o3
  go_wp2_with fail
  go_ret2
  rw [Ho.out]
  exact ⟨_, rfl, O3.out, by (repeat' (first | (with_reducible exact Below.refl _ _) | (with_reducible assumption) | (with_reducible refine Below.alloc ?_ ?_ _) | (with_reducible refine Below.setCell ?_ ?_ _) | (with_reducible refine Below.drew ?_) | (with_reducible refine Below.via (by assumption) ?_ ?_) | go_size))⟩

end Go.Proofs.Ytlnjkjogedbhfaa

/- FactorsOver of the reference. Conditions: lengths of at most 2^40. -/
namespace Go.Proofs.Ytlnjkjogedbhfaa
open Go Go.RowKit
set_option linter.unusedSimpArgs false
set_option linter.unusedVariables false

set_option maxRecDepth 100000 in
set_option maxHeartbeats 4000000 in
theorem few_spec (b : Nat) (v : Value) (zs : List Int) (m : Int) (w : World) (hp : w.cell? ⟨b, 0, none⟩ = some v) (hv : RdI w v zs) (hl : zs.length ≤ 1099511627776) : Calls Try.prog 116 #[.pointer (some ⟨b, 0, none⟩), .int .i64 m] w fun e w' => e = .returned (.bool (facOk m zs)) ∧ w' = w := by
  have Hv := Lib.hid hv
  obtain ⟨ao, c, rfl⟩ := hv.shape
  have Hp := Lib.hid hp
  clear hv
  cases hq : overB m zs
  · have Ho := Lib.hid (show facOk m zs = false by unfold facOk; rw [hq]; rfl)
    go_enter Try.func116, Try.ntmps116
    go_wp2_with fail
    (go_at_call 68; ((with_reducible refine (over_spec _ _ zs m _ (Hp.out) Hv.out hl).mono ?_); rintro e w' ⟨rfl, rfl⟩))
    rw [hq]
    go_wp2_with fail
    go_ret
    exact ⟨by rw [Ho.out]; rfl, rfl⟩
  by_cases h2 : 2 ≤ zs.length
  · have h2' : (2 : Int) ≤ (zs.length : Int) := by omega
    by_cases h7 : zs.length ≤ 7
    · have h7' : (zs.length : Int) ≤ 7 := by omega
      have Ho := Lib.hid (show facOk m zs = true by unfold facOk; rw [hq, decide_eq_true h2, decide_eq_true h7]; rfl)
      go_enter Try.func116, Try.ntmps116
      go_wp2_with fail
      (go_at_call 68; ((with_reducible refine (over_spec _ _ zs m _ (Hp.out) Hv.out hl).mono ?_); rintro e w' ⟨rfl, rfl⟩))
      rw [hq]
      go_wp2_with fail
      go_ret
      exact ⟨by rw [Ho.out]; rfl, rfl⟩
    · have h7' : ¬ (zs.length : Int) ≤ 7 := by omega
      have Ho := Lib.hid (show facOk m zs = false by unfold facOk; rw [hq, decide_eq_false h7]; simp)
      go_enter Try.func116, Try.ntmps116
      go_wp2_with fail
      (go_at_call 68; ((with_reducible refine (over_spec _ _ zs m _ (Hp.out) Hv.out hl).mono ?_); rintro e w' ⟨rfl, rfl⟩))
      rw [hq]
      go_wp2_with fail
      go_ret
      exact ⟨by show Ending.returned (Value.bool (decide ((zs.length : Int) ≤ 7))) = _; rw [decide_eq_false (by omega), Ho.out], rfl⟩
  · have h2' : ¬ (2 : Int) ≤ (zs.length : Int) := by omega
    have Ho := Lib.hid (show facOk m zs = false by unfold facOk; rw [hq, decide_eq_false h2]; simp)
    go_enter Try.func116, Try.ntmps116
    go_wp2_with fail
    (go_at_call 68; ((with_reducible refine (over_spec _ _ zs m _ (Hp.out) Hv.out hl).mono ?_); rintro e w' ⟨rfl, rfl⟩))
    rw [hq]
    go_wp2_with fail
    go_ret
    exact ⟨by rw [Ho.out]; rfl, rfl⟩

set_option maxRecDepth 100000 in
set_option maxHeartbeats 4000000 in
theorem FactorsOver_spec (va : Value) (a : List Int) (m : Int) (w : World) (ha : RdI w va a) (hla : a.length ≤ 1099511627776) : Calls Try.prog 47 #[.agg #[va], .int .i64 m] w (RetWs (facR m a) w) := by
  have Ha := Lib.hid ha
  obtain ⟨aoa, ca, rfl⟩ := ha.shape
  clear ha
  cases hq : facOk m a
  · have Ho := Lib.hid (show facR m a = none by unfold facR; rw [hq]; rfl)
    go_enter Try.func47, Try.ntmps47
    go_wp2_with fail
    (go_at_call 116; ((with_reducible refine (few_spec _ _ a m _ (by go_simp) (Ha.out.below (by (repeat' (first | (with_reducible exact Below.refl _ _) | (with_reducible assumption) | (with_reducible refine Below.alloc ?_ ?_ _) | (with_reducible refine Below.setCell ?_ ?_ _) | (with_reducible refine Below.drew ?_) | (with_reducible refine Below.via (by assumption) ?_ ?_) | go_size)))) hla).mono ?_); rintro e w' ⟨rfl, rfl⟩))
    rw [hq]
    go_wp2_with fail
    go_ret2
    rw [Ho.out]
    exact ⟨_, rfl, .inl ⟨rfl, rfl⟩, by (repeat' (first | (with_reducible exact Below.refl _ _) | (with_reducible assumption) | (with_reducible refine Below.alloc ?_ ?_ _) | (with_reducible refine Below.setCell ?_ ?_ _) | (with_reducible refine Below.drew ?_) | (with_reducible refine Below.via (by assumption) ?_ ?_) | go_size))⟩
  have Ho := Lib.hid (show facR m a = some (facL m a) by rw [facR, if_pos hq])
  have Hq := Lib.hid hq
  have hF := facL_all hq
  have hm2 := primeB_bd hF.hm
  have hm3 : 0 ≤ m := by
    rcases Int.lt_or_le m 0 with h | h
    · rw [show m.toNat = 0 by omega] at hm2; simp at hm2
    · exact h
  clear hq
  obtain ⟨M, rfl⟩ : ∃ M : Nat, m = M := ⟨m.toNat, by omega⟩
  rw [Int.toNat_natCast] at hF
  have HF := Lib.hid hF
  clear hF
  go_enter Try.func47, Try.ntmps47
  go_wp2_with fail
  (go_at_call 116; ((with_reducible refine (few_spec _ _ a (M : Int) _ (by go_simp) (Ha.out.below (by (repeat' (first | (with_reducible exact Below.refl _ _) | (with_reducible assumption) | (with_reducible refine Below.alloc ?_ ?_ _) | (with_reducible refine Below.setCell ?_ ?_ _) | (with_reducible refine Below.drew ?_) | (with_reducible refine Below.via (by assumption) ?_ ?_) | go_size)))) hla).mono ?_); rintro e w' ⟨rfl, rfl⟩))
  rw [Hq.out]
  go_wp2_with fail
  (go_at_call 117; ((with_reducible refine (ordered_spec _ a (monicS M a) M (facL M a) _ (Ha.out.below (by (repeat' (first | (with_reducible exact Below.refl _ _) | (with_reducible assumption) | (with_reducible refine Below.alloc ?_ ?_ _) | (with_reducible refine Below.setCell ?_ ?_ _) | (with_reducible refine Below.drew ?_) | (with_reducible refine Below.via (by assumption) ?_ ?_) | go_size)))) HF.out.hm HF.out.ov HF.out.nz HF.out.l7 rfl HF.out.mon HF.out.fs (Nat.le_trans HF.out.l6 (by omega)) HF.out.srt HF.out.ne).mono ?_); rintro e w3 ⟨v3, rfl, o3, hb3⟩))
  have O3 := Lib.hid (o3.mono (lo' := w.heap.size) (by simp only [World.size_alloc]; omega))
  obtain ⟨p3, n3, rfl⟩ := o3.rd.shape
  clear o3
  go_wp2_with fail
  go_ret2
  rw [Ho.out]
  exact ⟨_, rfl, O3.out, by (repeat' (first | (with_reducible exact Below.refl _ _) | (with_reducible assumption) | (with_reducible refine Below.alloc ?_ ?_ _) | (with_reducible refine Below.setCell ?_ ?_ _) | (with_reducible refine Below.drew ?_) | (with_reducible refine Below.via (by assumption) ?_ ?_) | go_size))⟩

end Go.Proofs.Ytlnjkjogedbhfaa
