/- A whole over a prime that is drawn from bytes. Conditions: at most 2^20 bytes, a prime of at most 13, a degree of at most 8. -/
import Derived.Test.YtlnjkjogedbhfaaI36
import Derived.Test.YtlnjkjogedbhfaaI11
import Derived.Test.YtlnjkjogedbhfaaI15
import Derived.Test.YtlnjkjogedbhfaaI22
import Derived.Test.YtlnjkjogedbhfaaIBez
import Derived.Test.YtlnjkjogedbhfaaI53a
import Derived.Test.YtlnjkjogedbhfaaI54a
import Derived.Deep.CutBlock
import Derived.StillTailTactics
import Derived.BigQuiet
namespace Go.Proofs.Ytlnjkjogedbhfaa
open Go Go.RowKit
set_option linter.unusedSimpArgs false
set_option linter.unusedVariables false

theorem ov_snoc {m z : Int} {zs : List Int} (h : OvI m zs) (hz : 0 ≤ z ∧ z < m) : OvI m (zs ++ [z]) := fun i => by
  have h0 := h i
  simp only [List.getD] at h0 ⊢
  rcases Nat.lt_trichotomy i zs.length with h1 | h1 | h1
  · rw [List.getElem?_append_left h1]; exact h0
  · subst h1; rw [List.getElem?_append_right (Nat.le_refl _)]; simpa using hz
  · rw [List.getElem?_append_right (by omega), List.getElem?_eq_none (by simp; omega)]; simp; omega
/-- A drawn whole over a prime. -/
def ROvr (m most : Int) (w : World) (e : Ending) (w' : World) : Prop := ∃ u zs, e = .returned (.agg #[u]) ∧ OwI w' w.heap.size u zs ∧ Ovr m zs ∧ 2 ≤ zs.length ∧ (zs.length : Int) ≤ most + 1 ∧ Below w.heap.size w w'
set_option maxRecDepth 100000 in
set_option maxHeartbeats 1600000 in
theorem over_draw (v : Value) (bs : List Int) (m most : Int) (w : World) (hv : RdB w v bs) (hl : bs.length ≤ 1048576) (hm : 2 ≤ m ∧ m ≤ 13) (hmo : 1 ≤ most ∧ most ≤ 8) : Calls Try.prog 15 #[v, .int .i64 m, .int .i64 most] w (ROvr m most w) := by
  have Hv := Lib.hid hv
  have hvb := Lib.hid hv.blk
  obtain ⟨ao, cap, rfl⟩ := hv.shape
  clear hv
  go_enter Try.func15, Try.ntmps15
  go_wp2_with fail
  (go_at_call 63; ((with_reducible refine (from_spec _ bs _ (Hv.out.below (by (repeat' (first | (with_reducible exact Below.refl _ _) | (with_reducible assumption) | (with_reducible refine Below.alloc ?_ ?_ _) | (with_reducible refine Below.setCell ?_ ?_ _) | (with_reducible refine Below.drew ?_) | (with_reducible refine Below.via (by assumption) ?_ ?_) | go_size)))) hl).mono ?_); rintro e w1 ⟨rfl, hs1, hb1⟩))
  obtain ⟨c1, f1⟩ := bcell hb1
  have z1 := hb1.size
  simp only [World.size_alloc] at z1
  have Hs1 := Lib.hid hs1
  have sg := World.block_lt_of_cell? _ _ hs1.1
  have x0 : w1.cell? ⟨w.heap.size, 0, none⟩ = some (.slice none 0 0) := by go_simp
  have y0 : w1.frozen? ⟨w.heap.size, 0, none⟩ = false := by go_simp
  have Bw1 := Lib.hid (show Below w.heap.size w w1 by (repeat' (first | (with_reducible exact Below.refl _ _) | (with_reducible assumption) | (with_reducible refine Below.alloc ?_ ?_ _) | (with_reducible refine Below.setCell ?_ ?_ _) | (with_reducible refine Below.drew ?_) | (with_reducible refine Below.via (by assumption) ?_ ?_) | go_size)))
  simp only [World.size_alloc] at sg Hs1
  clear hs1 hb1 c1 f1
  go_wp2_with fail
  (go_at_call 64; ((with_reducible refine (pick_spec (w.heap.size + 1) _ bs 0 most _ (Hs1.out.below (by (repeat' (first | (with_reducible exact Below.refl _ _) | (with_reducible assumption) | (with_reducible refine Below.alloc ?_ ?_ _) | (with_reducible refine Below.setCell ?_ ?_ _) | (with_reducible refine Below.drew ?_) | (with_reducible refine Below.via (by assumption) ?_ ?_) | go_size)))) (by omega) (by omega) (by omega)).mono ?_); rintro e w2 ⟨z, k2, rfl, hz0, hz1, hk1, hk2, hs2, ho⟩))
  have Hs2 := Lib.hid hs2
  have z2 := ho.size
  simp only [World.size_alloc] at z2
  have HRow := Lib.hid (RowI.only (RowI.emptyB (E := fun _ => 0) (W := w1) (s := w1.heap.size) (B := w1.heap.size) rfl (Nat.le_refl _)) ho (by omega))
  have O1 := Lib.hid ((Only.ofBelow (lo := w.heap.size + 1) (hi := w.heap.size + 1 + 1) (show Below w1.heap.size w1 (w1.alloc (.cells #[] 2)) by (repeat' (first | (with_reducible exact Below.refl _ _) | (with_reducible assumption) | (with_reducible refine Below.alloc ?_ ?_ _) | (with_reducible refine Below.setCell ?_ ?_ _) | (with_reducible refine Below.drew ?_) | (with_reducible refine Below.via (by assumption) ?_ ?_) | go_size)))).trans ho)
  obtain ⟨n, hn⟩ : ∃ n : Nat, 1 + z = n := ⟨(1 + z).toNat, by omega⟩
  have hn2 : n ≤ 8 ∧ 1 ≤ n := by omega
  have hnm : (n : Int) ≤ most := by omega
  have hk20 : k2 ≤ 2 := by omega
  have sg1 : w.heap.size + 1 < w1.heap.size := by omega
  have X0 := Lib.hid x0
  have Y0 := Lib.hid y0
  clear hs2 ho x0 y0
  go_wp2_with fail
  (try rw [hn])
  go_loopw [8, 9] (fun ov nv wr => ∃ (j k' : Nat) (zs : List Int), j ≤ n ∧ nv = .int .i64 ((n : Int) - j) ∧ zs.length = j ∧ OvI m zs ∧ RowI wr w1.heap.size ov zs ∧ SrcI wr (w.heap.size + 1) (.slice ao bs.length cap) bs k' ∧ k' ≤ 10 + 2 * j ∧ Only (w.heap.size + 1) (w.heap.size + 1 + 1) w1 wr) (fun _ nv _ => (intOf nv).toNat)
  case atStart => exact ⟨0, k2, [], Nat.zero_le _, by simp, rfl, fun i => by simp; omega, HRow.out, Hs2.out, by omega, O1.out⟩
  case round =>
    obtain ⟨j, k', zs, hj, rfl, hlz, hov, hrow, hsr, hk', hon⟩ := hrel
    have Hrow := Lib.hid hrow
    have Hov := Lib.hid hov
    have Hsr := Lib.hid hsr
    have Hon := Lib.hid hon
    have hsz := hon.size
    clear hrow hov hsr hon
    have hvb2 := Lib.hid (fun p n c (h1 : bs ≠ []) (h2 : Value.slice ao bs.length cap = .slice (some p) n c) => (show p.block < w1.heap.size by have := hvb.out h1 p n c h2; omega))
    by_cases hlt : j < n
    · have hgt : (0 : Int) < (n : Int) - j := by omega
      go_wp2_with fail
      (go_at_call 64; ((with_reducible refine (pick_spec (w.heap.size + 1) _ bs k' m _ Hsr.out (by omega) (by omega) (by omega)).mono ?_); rintro e w3 ⟨z3, k3, rfl, hz30, hz31, hk31, hk32, hs3, ho3⟩))
      have Hs3 := Lib.hid hs3
      have Ho3 := Lib.hid ho3
      have hz3 := ho3.size
      have Hr3 := Lib.hid (Hrow.out.only ho3 (by omega))
      clear hs3 ho3
      have hlen : zs.length ≤ 1099511627776 := by omega
      go_wp2_with (at_builtin; refine wpList_pushI Hr3.out rfl _ _ rfl int64S_under hlen (by first | omega | (simp only [World.size_alloc]; omega)) rfl rfl ?_; intro v4 w4 hr4 hb4)
      go_roundw
      case rel => exact ⟨j + 1, k3, zs ++ [z3], by omega, by first | (congr 1; omega) | (simp; omega), by rw [List.length_append, List.length_singleton, hlz], ov_snoc Hov.out ⟨hz30, hz31⟩, hr4, Hs3.out.belowB hb4 (by omega) (fun p n c h1 h2 => hvb2.out p n c h1 h2), by omega, (Hon.out.trans Ho3.out).below' (hb4.mono (Nat.le_refl _))⟩
      case measure => simp [intOf]; omega
    · obtain rfl : j = n := by omega
      have hgt : ¬ ((0 : Int) < (j : Int) - j) := by omega
      have hm1 : IntKind.i64.wrap (m - 1) = m - 1 := IntWalk.i64_in _ ⟨by omega, by omega⟩
      go_wp2_with fail
      (go_at_call 64; ((with_reducible refine (pick_spec (w.heap.size + 1) _ bs k' (m - 1) _ Hsr.out (by omega) (by omega) (by omega)).mono ?_); rintro e w3 ⟨z3, k3, rfl, hz30, hz31, hk31, hk32, hs3, ho3⟩))
      have Ho3 := Lib.hid ho3
      have hz3 := ho3.size
      have Hr3 := Lib.hid (Hrow.out.only ho3 (by omega))
      clear hs3 ho3
      have hlen : zs.length ≤ 1099511627776 := by omega
      have HX3 := Lib.hid ((Ho3.out.cell (p := ⟨w.heap.size, 0, none⟩) (by simp only; omega) (by simp only; omega)).trans ((Hon.out.cell (p := ⟨w.heap.size, 0, none⟩) (by simp only; omega) (by simp only; omega)).trans X0.out))
      have HY3 := Lib.hid ((World.frozen?_of_block (w := wr) (a := ⟨w.heap.size, 0, none⟩) (Ho3.out.block w.heap.size (by omega) (by omega))).trans ((World.frozen?_of_block (w := w1) (a := ⟨w.heap.size, 0, none⟩) (Hon.out.block w.heap.size (by omega) (by omega))).trans Y0.out))
      have B3 := Lib.hid (Bw1.out.trans ((Hon.out.trans Ho3.out).toBelow (B := w.heap.size) (by omega) (by omega)))
      clear hm1
      have hm1 : IntKind.i64.wrap (1 + z3) = 1 + z3 := IntWalk.i64_in _ ⟨by omega, by omega⟩
      go_wp2_with (at_builtin; refine wpList_pushI Hr3.out rfl _ _ rfl int64S_under hlen (by first | omega | (simp only [World.size_alloc]; omega)) rfl rfl ?_; intro v4 w4 hr4 hb4; obtain ⟨p4, n4, rfl⟩ := hr4.own.rd.shape; have Hr4 := Lib.hid hr4; have Hb4 := Lib.hid hb4; have x4 := (hb4.cell (p := ⟨w.heap.size, 0, none⟩) (by simp only; omega)).trans HX3.out; have y4 := (hb4.frozen (p := ⟨w.heap.size, 0, none⟩) (by simp only; omega)).trans HY3.out; have l4 := World.block_lt_of_cell? _ _ x4; simp only at l4; clear hr4 hb4)
      (try simp only [Exit.inBlock, Exit.then]); refine bodyPost_ret (by simp [results, Try.results15, go_sem, *]; try rfl) rfl ?_
      have ho := Lib.hid (ov_snoc Hov.out (m := m) (z := 1 + z3) (by omega))
      have hj1 : (zs ++ [1 + z3]).length = j + 1 := by simp; omega
      have Hr5 : OwI w4 w1.heap.size (.slice p4 (j + 1) n4) (zs ++ [1 + z3]) := by have := Hr4.out.own; rw [hj1] at this; exact this
      exact ⟨_, zs ++ [1 + z3], rfl, OwI.mono (B := w1.heap.size) (OwI.setCell Hr5 (a := ⟨w.heap.size, 0, none⟩) (by simp only; omega) _) (by omega), ⟨ho.out, ⟨by simp, .inr (by show lastZ (zs ++ [1 + z3]) ≠ 0; rw [last_snoc]; omega)⟩, by simp; omega⟩, by simp; omega, by simp; omega, Below.setCell (B3.out.trans (Hb4.out.mono (by omega))) (Nat.le_refl _) _⟩

end Go.Proofs.Ytlnjkjogedbhfaa

/- MulWholes of the reference. Conditions: both wholes and their product are valid. -/
namespace Go.Proofs.Ytlnjkjogedbhfaa
open Go Go.RowKit
set_option linter.unusedSimpArgs false
set_option linter.unusedVariables false

set_option maxRecDepth 100000 in
set_option maxHeartbeats 1600000 in
theorem MulWholes_spec (va vb : Value) (a b : List Int) (w : World) (ha : RdI w va a) (hb : RdI w vb b) (hva : Vld a) (hvb : Vld b) (hp : Vld (mulZ a b)) : Calls Try.prog 16 #[.agg #[va], .agg #[vb]] w (RWB (mulZ a b, true) w) := by
  have Ha := Lib.hid ha
  have Hb := Lib.hid hb
  have Hva := Lib.hid hva
  have Hvb := Lib.hid hvb
  have Hqa := Lib.hid (validB_iff.2 hva)
  have Hqb := Lib.hid (validB_iff.2 hvb)
  have Hg := Lib.hid (giveF_valid (validB_iff.2 hp))
  have Ht := Lib.hid (hp.trd.trimS)
  have hla := hva.len
  have hlb := hvb.len
  have hlp := hp.len
  have h1 := List.length_pos_iff.2 hva.ne
  have h2 := List.length_pos_iff.2 hvb.ne
  obtain ⟨aoa, ca, rfl⟩ := ha.shape
  obtain ⟨aob, cb, rfl⟩ := hb.shape
  clear ha hb hva hvb hp
  go_enter Try.func16, Try.ntmps16
  go_wp2_with fail
  (go_at_call 65; ((with_reducible refine (is_spec _ _ a _ (by go_simp) (Ha.out.below (by (repeat' (first | (with_reducible exact Below.refl _ _) | (with_reducible assumption) | (with_reducible refine Below.alloc ?_ ?_ _) | (with_reducible refine Below.setCell ?_ ?_ _) | (with_reducible refine Below.drew ?_) | (with_reducible refine Below.via (by assumption) ?_ ?_) | go_size)))) (by omega)).mono ?_); rintro e w' ⟨rfl, rfl⟩))
  rw [Hqa.out]
  go_wp2_with fail
  (go_at_call 65; ((with_reducible refine (is_spec _ _ b _ (by go_simp) (Hb.out.below (by (repeat' (first | (with_reducible exact Below.refl _ _) | (with_reducible assumption) | (with_reducible refine Below.alloc ?_ ?_ _) | (with_reducible refine Below.setCell ?_ ?_ _) | (with_reducible refine Below.drew ?_) | (with_reducible refine Below.via (by assumption) ?_ ?_) | go_size)))) (by omega)).mono ?_); rintro e w' ⟨rfl, rfl⟩))
  rw [Hqb.out]
  go_wp2_with fail
  (go_at_call 67; ((with_reducible refine (mul_spec _ _ a b _ (Ha.out.below (by (repeat' (first | (with_reducible exact Below.refl _ _) | (with_reducible assumption) | (with_reducible refine Below.alloc ?_ ?_ _) | (with_reducible refine Below.setCell ?_ ?_ _) | (with_reducible refine Below.drew ?_) | (with_reducible refine Below.via (by assumption) ?_ ?_) | go_size)))) (Hb.out.below (by (repeat' (first | (with_reducible exact Below.refl _ _) | (with_reducible assumption) | (with_reducible refine Below.alloc ?_ ?_ _) | (with_reducible refine Below.setCell ?_ ?_ _) | (with_reducible refine Below.drew ?_) | (with_reducible refine Below.via (by assumption) ?_ ?_) | go_size)))) h1 h2 (by omega) (by omega) Hva.out.bd Hvb.out.bd).mono ?_); rintro e w3 ⟨v3, rfl, hr3, hb3⟩))
  obtain ⟨c3, f3⟩ := bcell hb3
  have z3 := hb3.size
  simp only [World.size_alloc] at z3
  have n0 : w.heap.size < w3.heap.size := by omega
  have n1 : w.heap.size + 1 < w3.heap.size := by omega
  have n2 : w.heap.size + 1 + 1 < w3.heap.size := by omega
  have Hr3 := Lib.hid hr3.own
  have Bw3 := Lib.hid (show Below w.heap.size w w3 by (repeat' (first | (with_reducible exact Below.refl _ _) | (with_reducible assumption) | (with_reducible refine Below.alloc ?_ ?_ _) | (with_reducible refine Below.setCell ?_ ?_ _) | (with_reducible refine Below.drew ?_) | (with_reducible refine Below.via (by assumption) ?_ ?_) | go_size)))
  clear hr3
  generalize mulZ a b = P at *
  go_wp2_with fail
  (go_at_call 66; ((with_reducible refine (give_spec _ P _ Hr3.out.rd (by omega)).mono ?_); rintro e w4 ⟨v4, rfl, ho4, hb4⟩))
  rw [Ht.out, Hg.out] at ho4
  rw [Ht.out, Hg.out]
  obtain ⟨c4, f4⟩ := bcell hb4
  have z4 := hb4.size
  have n4 : w.heap.size + 1 + 1 < w4.heap.size := by omega
  have Ho4 := Lib.hid ho4
  obtain ⟨p4, q4, rfl⟩ := ho4.rd.shape
  clear ho4
  have Bw4 := Lib.hid (Bw3.out.trans (hb4.mono (by omega)))
  clear hb3 hb4
  go_wp2_with fail
  (try simp only [Exit.inBlock, Exit.then]); refine bodyPost_ret (by simp [results, Try.results16, go_sem, *]; try rfl) rfl ?_
  exact ⟨_, rfl, OwI.mono (B := w3.heap.size) (OwI.setCell Ho4.out (a := ⟨w.heap.size + 1 + 1, 0, none⟩) (by simp only; omega) _) (by omega), by have h := Bw4.out; (repeat' (first | (with_reducible exact Below.refl _ _) | (with_reducible assumption) | (with_reducible refine Below.alloc ?_ ?_ _) | (with_reducible refine Below.setCell ?_ ?_ _) | (with_reducible refine Below.drew ?_) | (with_reducible refine Below.via (by assumption) ?_ ?_) | go_size))⟩

end Go.Proofs.Ytlnjkjogedbhfaa

/- Plain facts of FnLifted. Conditions: none. -/
namespace Go.Proofs.Ytlnjkjogedbhfaa
open Go Go.RowKit
set_option linter.unusedSimpArgs false
set_option linter.unusedVariables false

/-- A list over a prime, two to four terms long, its last term 1. -/
structure One (m : Int) (zs : List Int) : Prop where
  ov : Ovr m zs
  two : 2 ≤ zs.length
  four : zs.length ≤ 4
  last : lastZ zs = 1
theorem setLast_len (zs : List Int) : (zs.set (zs.length - 1) 1).length = zs.length := List.length_set
theorem set_get {zs : List Int} {j : Nat} {y : Int} (i : Nat) : (zs.set j y).getD i 0 = if i = j ∧ j < zs.length then y else zs.getD i 0 := by
  simp only [List.getD]
  by_cases h : i = j
  · subst h
    by_cases h2 : i < zs.length
    · rw [List.getElem?_set_self h2, if_pos ⟨rfl, h2⟩]; rfl
    · rw [List.getElem?_eq_none (by rw [List.length_set]; omega), if_neg (by omega), List.getElem?_eq_none (by omega)]
  · rw [List.getElem?_set_ne (by omega), if_neg (by omega)]
theorem setLast_one {m : Int} {zs : List Int} (hm : 2 ≤ m) (h : Ovr m zs) (h2 : 2 ≤ zs.length) (h4 : zs.length ≤ 4) : One m (zs.set (zs.length - 1) 1) := by
  have hl : lastZ (zs.set (zs.length - 1) 1) = 1 := by
    rw [lastZ, setLast_len, set_get, if_pos (by omega)]
  refine ⟨⟨fun i => ?_, trd_of_last (by rw [setLast_len]; omega) (by rw [hl]; decide), by rw [setLast_len]; omega⟩, by rw [setLast_len]; exact h2, by rw [setLast_len]; exact h4, hl⟩
  have := h.ov i
  rw [set_get]; split <;> omega
theorem mulZ_bdS {a b : List Int} (ha : BdI 168 a) (hb : BdI 168 b) (hl : a.length ≤ 17) : BdI 500000 (mulZ a b) := by
  have h := mulRows_bound (a := a) (b := b) (M := 28224) (by omega) (fun i k => by
    have := mul_bound (M := 168) (by omega) (ha i) (hb k)
    have e : (168 : Int) * 168 = 28224 := rfl
    rw [e] at this
    exact this) (bdI_zero (a.length + b.length - 1)) (by simp) a.length (Nat.le_refl _)
  intro i
  have h1 := h i
  have h2 : (a.length : Int) * 28224 ≤ 17 * 28224 := Int.mul_le_mul_of_nonneg_right (by omega) (by omega)
  unfold mulZ
  omega
theorem mulZ_one {a b : List Int} (ha : 0 < a.length) (hb : 0 < b.length) (h1 : lastZ a = 1) (h2 : lastZ b = 1) : lastZ (mulZ a b) = 1 := by
  have h := mulZ_top ha hb
  rw [h1, h2] at h
  rw [lastZ, mulZ_length, show a.length + b.length - 1 - 1 = a.length - 1 + (b.length - 1) by omega]
  exact h
/-- Small terms, the last one 1: a valid whole, and so is the product of two. -/
structure Sml (zs : List Int) : Prop where
  ov : ∀ i, 0 ≤ zs.getD i 0 ∧ zs.getD i 0 ≤ 168
  two : 2 ≤ zs.length
  eight : zs.length ≤ 8
  last : lastZ zs = 1
theorem Sml.vld {zs : List Int} (h : Sml zs) : Vld zs := ⟨trd_of_last (by have := h.two; omega) (by rw [h.last]; decide), fun i => by have := h.ov i; constructor <;> omega, by have := h.eight; omega⟩
theorem Sml.mul {a b : List Int} (ha : Sml a) (hb : Sml b) : Vld (mulZ a b) ∧ BdI 500000 (mulZ a b) := by
  have h1 := ha.two
  have h2 := hb.two
  have h3 := ha.eight
  have h4 := hb.eight
  have hB := mulZ_bdS (a := a) (b := b) (fun i => by have := ha.ov i; constructor <;> omega) (fun i => by have := hb.ov i; constructor <;> omega) (by omega)
  refine ⟨⟨trd_of_last (by rw [mulZ_length]; omega) ?_, fun i => by have := hB i; constructor <;> omega, by rw [mulZ_length]; omega⟩, hB⟩
  rw [mulZ_one (by omega) (by omega) ha.last hb.last]
  decide
theorem One.sml {m : Int} {zs : List Int} (hm : m ≤ 13) (h : One m zs) : Sml zs := ⟨fun i => by have := h.ov.ov i; omega, h.two, by have := h.four; omega, h.last⟩
theorem lift_sml {m : Int} {x y : List Int} (hm : 2 ≤ m ∧ m ≤ 13) (hx : One m x) (hy : Ovr m y) (hl : y.length ≤ x.length - 1) : Sml (liftZ m x y) := by
  have h2 := hx.two
  have h4 := hx.four
  have hq : m * m ≤ 13 * 13 := Int.mul_le_mul hm.2 hm.2 (by omega) (by omega)
  have hb := liftZ_bd hx.ov hy
  refine ⟨fun i => ?_, by rw [liftZ_length]; omega, by rw [liftZ_length]; omega, ?_⟩
  · by_cases hi : i < x.length
    · rw [liftZ_get hi]; have := hb i; omega
    · have : (liftZ m x y).getD i 0 = 0 := co_beyond _ (by rw [liftZ_length]; omega)
      rw [this]; omega
  · rw [lastZ, liftZ_length, liftZ_get (by omega)]
    have h0 : y.getD (x.length - 1) 0 = 0 := co_beyond y (by omega)
    have h1 := hx.last
    rw [lastZ] at h1
    rw [h0, h1]; simp
/-- A term of a lifted one: within bounds, and by m what it was. -/
theorem lift_term {m : Int} {x y : List Int} (hm : 2 ≤ m ∧ m ≤ 13) (hx : Ovr m x) (hy : Ovr m y) {i : Nat} (hi : i < x.length) : 0 ≤ (liftZ m x y).getD i 0 ∧ (liftZ m x y).getD i 0 < m * m ∧ ((liftZ m x y).getD i 0).tmod m = x.getD i 0 := by
  have hb := liftZ_bd hx hy i
  have h1 := hx.ov i
  rw [liftZ_get hi]
  refine ⟨hb.1, hb.2, ?_⟩
  rw [Int.tmod_eq_emod_of_nonneg hb.1, Int.add_mul_emod_self_left]
  exact Int.emod_eq_of_lt h1.1 h1.2
theorem lift_square {m : Int} {p g h : List Int} (c : LiftC m p g h) (i : Nat) : ((mulZ (liftZ m g (upU m p g h)) (liftZ m h (upV m p g h))).getD i 0 - p.getD i 0).tmod (m * m) = 0 := by
  have h1 := c.square i
  exact Int.tmod_eq_zero_of_dvd (Int.dvd_of_emod_eq_zero h1)
theorem bd_set {M M' y : Int} {zs : List Int} {j : Nat} (h : BdI M zs) (hM : M ≤ M') (hy : -M' ≤ y ∧ y ≤ M') : BdI M' (zs.set j y) := fun i => by
  have := h i
  rw [set_get]; split <;> omega
theorem liftR_cases (m : Int) (p g h : List Int) : (liftR m p g h = ([], [], false)) ∨ (LiftC m p g h ∧ validB p = true ∧ liftR m p g h = (liftZ m g (upU m p g h), liftZ m h (upV m p g h), true)) := by
  unfold liftR
  by_cases hk : liftOk m p g h = true
  · rw [if_pos hk]; exact .inr ⟨(liftOk_c hk).1, (liftOk_c hk).2, rfl⟩
  · rw [if_neg hk]; exact .inl rfl
end Go.Proofs.Ytlnjkjogedbhfaa

/- FnLifted: the tails of its walk. Conditions: none. -/
namespace Go.Proofs.Ytlnjkjogedbhfaa
open Go Go.RowKit
set_option linter.unusedSimpArgs false
set_option linter.unusedVariables false

/-- A number drawn by a byte, or by its index. -/
def b10A (a : List Int) (i n : Int) : Int := if i < (a.length : Int) then a.getD i.toNat 0 % n else (i * 37 + 11) % n
theorem b10A_bd {a : List Int} {i n : Int} (h : 1 < n) : 0 ≤ b10A a i n ∧ b10A a i n < n := by
  unfold b10A
  split
  · exact ⟨Int.emod_nonneg _ (by omega), Int.emod_lt_of_pos _ (by omega)⟩
  · exact ⟨Int.emod_nonneg _ (by omega), Int.emod_lt_of_pos _ (by omega)⟩
theorem int_eq {a b : Int} (h : a = b) : Ending.returned (.int .i64 a) = .returned (.int .i64 b) := by rw [h]
set_option maxRecDepth 100000 in
set_option maxHeartbeats 400000 in
theorem b10At_call (va : Value) (a : List Int) (i n : Int) (w : World) (ha : RdB w va a) (h0 : 0 ≤ i) (h1 : i ≤ 1000000) (h2 : 1 < n) (h3 : n ≤ 1000000) : Calls Try.prog 14 #[va, .int .i64 i, .int .i64 n] w fun e w' => e = .returned (.int .i64 (b10A a i n)) ∧ w' = w := by
  obtain ⟨ao, cap, rfl, hcp, hr, hc⟩ := ha
  have hn0 : ¬ (n = 0) := by omega
  have hn1 : ¬ (n ≤ 1) := by omega
  by_cases hi : i < a.length
  · rcases hc with hc | ⟨b, off, rfl, hc⟩
    · rw [hc] at hi; simp at hi; omega
    · obtain ⟨j, rfl⟩ : ∃ j : Nat, i = j := ⟨i.toNat, by omega⟩
      have c1 := hc j (by omega)
      have hz := hr j
      have hlt : j < a.length := by omega
      have He := Lib.hid (show b10A a j n = a.getD j 0 % n by unfold b10A; rw [if_pos hi]; rfl)
      generalize a.getD j 0 = z at *
      have Ht := Lib.hid (show z.tmod n = z % n from Int.tmod_eq_emod_of_nonneg hz.1)
      have hw1 : IntKind.i64.wrap z = z := IntWalk.i64_in _ ⟨by omega, by omega⟩
      clear hr hc
      go_enter Try.func14, Try.ntmps14
      go_wp2
      go_ret
      exact ⟨int_eq (by first | (rw [He.out]; done) | (rw [He.out]; exact Ht.out)), rfl⟩
  · have He := Lib.hid (show b10A a i n = (i * 37 + 11) % n by unfold b10A; rw [if_neg hi])
    have Ht := Lib.hid (show (i * 37 + 11).tmod n = (i * 37 + 11) % n from Int.tmod_eq_emod_of_nonneg (by omega))
    clear hr hc
    go_enter Try.func14, Try.ntmps14
    go_wp2
    go_ret
    exact ⟨int_eq (by first | (rw [He.out]; done) | (rw [He.out]; exact Ht.out)), rfl⟩
/-- What is drawn. -/
structure FK (w : World) (m : Int) (code more G H Q : List Int) (pc : Option Addr) (qc : Nat) (pm : Option Addr) (qm : Nat) : Prop where
  rc : RdB w (.slice pc code.length qc) code
  rm : RdB w (.slice pm more.length qm) more
  hm : primeB m = true
  g : One m G
  h : One m H
  q : Q.length = G.length + H.length - 1
theorem FK.set {w : World} {m : Int} {code more G H Q : List Int} {pc : Option Addr} {qc : Nat} {pm : Option Addr} {qm : Nat} (k : FK w m code more G H Q pc qc pm qm) {Q' : List Int} (h : Q'.length = Q.length) : FK w m code more G H Q' pc qc pm qm := ⟨k.rc, k.rm, k.hm, k.g, k.h, h.trans k.q⟩
noncomputable def fnLiftCode : Code := (Try.f3.body).getD .skip

set_option maxRecDepth 100000 in
/-- What follows from statement 10 on. -/
def FT10 : Prop := ∀ {w : World} {m : Int} {code more G H Q : List Int} {pc : Option Addr} {qc : Nat} {pm : Option Addr} {qm : Nat} {wr : World} {a7 a8 a9 : Nat} {W : World} {gP cP : Nat} {x2 x3 x4 x5 x10 x11 x12 x13 x14 x15 x16 x17 x18 x19 x20 x21 x22 x23 x24 x25 x26 x27 x28 x29 x30 x31 x32 x33 x34 x35 x36 x37 x38 x39 x40 x41 x42 x43 x44 x45 x46 x47 x48 x49 x50 x51 x52 x53 x54 x55 x56 x57 x58 x59 x60 x61 x62 x63 x64 x65 x66 x67 x68 x69 x70 x71 x72 x73 x74 x75 x76 x77 x78 x79 x80 x81 x82 x83 x84 x85 x86 x87 x88 x89 x90 x91 x92 x93 x94 x95 x96 x97 x98 x99 x100 x101 x102 x103 x104 x105 x106 x107 x108 x109 x110 x111 x112 x113 x114 x115 x116 x117 x118 x119 x120 x121 x122 x123 x124 x125 x126 x127 x128 x129 x130 x131 x132 x133 x134 x135 x136 x137 x138 x139 x140 x141 x142 x143 x144 x145 x146 x147 x148 x149 x150 x151 x152 x153 x154 x155 x156 x157 x158 x159 x160 x161 x162 x163 x164 x165 x166 x167 x168 x169 x170 x171 x172 x173 x174 x175 x176 x177 x178 x179 x180 x181 x182 x183 x184 x185 x186 x187 x188 x189 x190 x191 x192 x193 x194 x195 x196 x197 x198 x199 x200 x201 x202 x203 x204 x205 x206 x207 x208 x209 x210 x211 x212 x213 x214 x215 x216 x217 x218 x219 x220 x221 x222 x223 x224 x225 x226 x227 x228 x229 x230 x231 x232 x233 x234 x235 x236 : Value}, FK w m code more G H Q pc qc pm qm → Below w.heap.size w W → BxW W a7 G → BxW W a8 H → Below W.heap.size W wr → OwI wr W.heap.size (.slice (some ⟨gP, 0, none⟩) Q.length cP) Q → BdI 500000 Q → wr.cell? ⟨a9, 0, none⟩ = some (.slice (some ⟨gP, 0, none⟩) Q.length cP) → a9 ≠ gP → (dropC 10 fnLiftCode).wp Try.prog (bodyPost Try.prog Try.f3 (RB true w)) ⟨List.toArray (.slice pc code.length qc :: .slice pm more.length qm :: x2 :: x3 :: x4 :: x5 :: .int .i64 m :: .pointer (some ⟨a7, 0, none⟩) :: .pointer (some ⟨a8, 0, none⟩) :: .pointer (some ⟨a9, 0, none⟩) :: x10 :: x11 :: x12 :: x13 :: x14 :: x15 :: x16 :: x17 :: x18 :: x19 :: x20 :: x21 :: x22 :: x23 :: x24 :: x25 :: x26 :: x27 :: x28 :: x29 :: x30 :: x31 :: x32 :: x33 :: x34 :: x35 :: x36 :: x37 :: x38 :: x39 :: x40 :: x41 :: x42 :: x43 :: x44 :: x45 :: x46 :: x47 :: x48 :: x49 :: x50 :: x51 :: x52 :: x53 :: x54 :: x55 :: x56 :: x57 :: x58 :: x59 :: x60 :: x61 :: x62 :: x63 :: x64 :: x65 :: x66 :: x67 :: x68 :: x69 :: x70 :: x71 :: x72 :: x73 :: x74 :: x75 :: x76 :: x77 :: x78 :: x79 :: x80 :: x81 :: x82 :: x83 :: x84 :: x85 :: x86 :: x87 :: x88 :: x89 :: x90 :: x91 :: x92 :: x93 :: x94 :: x95 :: x96 :: x97 :: x98 :: x99 :: x100 :: x101 :: x102 :: x103 :: x104 :: x105 :: x106 :: x107 :: x108 :: x109 :: x110 :: x111 :: x112 :: x113 :: x114 :: x115 :: x116 :: x117 :: x118 :: x119 :: x120 :: x121 :: x122 :: x123 :: x124 :: x125 :: x126 :: x127 :: x128 :: x129 :: x130 :: x131 :: x132 :: x133 :: x134 :: x135 :: x136 :: x137 :: x138 :: x139 :: x140 :: x141 :: x142 :: x143 :: x144 :: x145 :: x146 :: x147 :: x148 :: x149 :: x150 :: x151 :: x152 :: x153 :: x154 :: x155 :: x156 :: x157 :: x158 :: x159 :: x160 :: x161 :: x162 :: x163 :: x164 :: x165 :: x166 :: x167 :: x168 :: x169 :: x170 :: x171 :: x172 :: x173 :: x174 :: x175 :: x176 :: x177 :: x178 :: x179 :: x180 :: x181 :: x182 :: x183 :: x184 :: x185 :: x186 :: x187 :: x188 :: x189 :: x190 :: x191 :: x192 :: x193 :: x194 :: x195 :: x196 :: x197 :: x198 :: x199 :: x200 :: x201 :: x202 :: x203 :: x204 :: x205 :: x206 :: x207 :: x208 :: x209 :: x210 :: x211 :: x212 :: x213 :: x214 :: x215 :: x216 :: x217 :: x218 :: x219 :: x220 :: x221 :: x222 :: x223 :: x224 :: x225 :: x226 :: x227 :: x228 :: x229 :: x230 :: x231 :: x232 :: x233 :: x234 :: x235 :: x236 :: []), []⟩ wr

set_option maxRecDepth 100000 in
/-- What follows from statement 11 on. -/
def FT11 : Prop := ∀ {w : World} {m : Int} {code more G H Q : List Int} {pc : Option Addr} {qc : Nat} {pm : Option Addr} {qm : Nat} {wr : World} {a7 a8 a9 : Nat} {x2 x3 x4 x5 x10 x11 x12 x13 x14 x15 x16 x17 x18 x19 x20 x21 x22 x23 x24 x25 x26 x27 x28 x29 x30 x31 x32 x33 x34 x35 x36 x37 x38 x39 x40 x41 x42 x43 x44 x45 x46 x47 x48 x49 x50 x51 x52 x53 x54 x55 x56 x57 x58 x59 x60 x61 x62 x63 x64 x65 x66 x67 x68 x69 x70 x71 x72 x73 x74 x75 x76 x77 x78 x79 x80 x81 x82 x83 x84 x85 x86 x87 x88 x89 x90 x91 x92 x93 x94 x95 x96 x97 x98 x99 x100 x101 x102 x103 x104 x105 x106 x107 x108 x109 x110 x111 x112 x113 x114 x115 x116 x117 x118 x119 x120 x121 x122 x123 x124 x125 x126 x127 x128 x129 x130 x131 x132 x133 x134 x135 x136 x137 x138 x139 x140 x141 x142 x143 x144 x145 x146 x147 x148 x149 x150 x151 x152 x153 x154 x155 x156 x157 x158 x159 x160 x161 x162 x163 x164 x165 x166 x167 x168 x169 x170 x171 x172 x173 x174 x175 x176 x177 x178 x179 x180 x181 x182 x183 x184 x185 x186 x187 x188 x189 x190 x191 x192 x193 x194 x195 x196 x197 x198 x199 x200 x201 x202 x203 x204 x205 x206 x207 x208 x209 x210 x211 x212 x213 x214 x215 x216 x217 x218 x219 x220 x221 x222 x223 x224 x225 x226 x227 x228 x229 x230 x231 x232 x233 x234 x235 x236 : Value}, FK w m code more G H Q pc qc pm qm → Below w.heap.size w wr → BxW wr a7 G → BxW wr a8 H → BxW wr a9 Q → (dropC 11 fnLiftCode).wp Try.prog (bodyPost Try.prog Try.f3 (RB true w)) ⟨List.toArray (.slice pc code.length qc :: .slice pm more.length qm :: x2 :: x3 :: x4 :: x5 :: .int .i64 m :: .pointer (some ⟨a7, 0, none⟩) :: .pointer (some ⟨a8, 0, none⟩) :: .pointer (some ⟨a9, 0, none⟩) :: x10 :: x11 :: x12 :: x13 :: x14 :: x15 :: x16 :: x17 :: x18 :: x19 :: x20 :: x21 :: x22 :: x23 :: x24 :: x25 :: x26 :: x27 :: x28 :: x29 :: x30 :: x31 :: x32 :: x33 :: x34 :: x35 :: x36 :: x37 :: x38 :: x39 :: x40 :: x41 :: x42 :: x43 :: x44 :: x45 :: x46 :: x47 :: x48 :: x49 :: x50 :: x51 :: x52 :: x53 :: x54 :: x55 :: x56 :: x57 :: x58 :: x59 :: x60 :: x61 :: x62 :: x63 :: x64 :: x65 :: x66 :: x67 :: x68 :: x69 :: x70 :: x71 :: x72 :: x73 :: x74 :: x75 :: x76 :: x77 :: x78 :: x79 :: x80 :: x81 :: x82 :: x83 :: x84 :: x85 :: x86 :: x87 :: x88 :: x89 :: x90 :: x91 :: x92 :: x93 :: x94 :: x95 :: x96 :: x97 :: x98 :: x99 :: x100 :: x101 :: x102 :: x103 :: x104 :: x105 :: x106 :: x107 :: x108 :: x109 :: x110 :: x111 :: x112 :: x113 :: x114 :: x115 :: x116 :: x117 :: x118 :: x119 :: x120 :: x121 :: x122 :: x123 :: x124 :: x125 :: x126 :: x127 :: x128 :: x129 :: x130 :: x131 :: x132 :: x133 :: x134 :: x135 :: x136 :: x137 :: x138 :: x139 :: x140 :: x141 :: x142 :: x143 :: x144 :: x145 :: x146 :: x147 :: x148 :: x149 :: x150 :: x151 :: x152 :: x153 :: x154 :: x155 :: x156 :: x157 :: x158 :: x159 :: x160 :: x161 :: x162 :: x163 :: x164 :: x165 :: x166 :: x167 :: x168 :: x169 :: x170 :: x171 :: x172 :: x173 :: x174 :: x175 :: x176 :: x177 :: x178 :: x179 :: x180 :: x181 :: x182 :: x183 :: x184 :: x185 :: x186 :: x187 :: x188 :: x189 :: x190 :: x191 :: x192 :: x193 :: x194 :: x195 :: x196 :: x197 :: x198 :: x199 :: x200 :: x201 :: x202 :: x203 :: x204 :: x205 :: x206 :: x207 :: x208 :: x209 :: x210 :: x211 :: x212 :: x213 :: x214 :: x215 :: x216 :: x217 :: x218 :: x219 :: x220 :: x221 :: x222 :: x223 :: x224 :: x225 :: x226 :: x227 :: x228 :: x229 :: x230 :: x231 :: x232 :: x233 :: x234 :: x235 :: x236 :: []), []⟩ wr

set_option maxRecDepth 100000 in
/-- What follows from statement 17 on. -/
def FT17 : Prop := ∀ {w : World} {m : Int} {code more G H Q : List Int} {pc : Option Addr} {qc : Nat} {pm : Option Addr} {qm : Nat} {wr : World} {a7 a8 a9 : Nat} {a15 a16 : Nat} {x2 x3 x4 x5 x10 x11 x12 x13 x14 x17 x19 x20 x21 x22 x23 x24 x25 x26 x27 x28 x29 x30 x31 x32 x33 x34 x35 x36 x37 x38 x39 x40 x41 x42 x43 x44 x45 x46 x47 x48 x49 x50 x51 x52 x53 x54 x55 x56 x57 x58 x59 x60 x61 x62 x63 x64 x65 x66 x67 x68 x69 x70 x71 x72 x73 x74 x75 x76 x77 x78 x79 x80 x81 x82 x83 x84 x85 x86 x87 x88 x89 x90 x91 x92 x93 x94 x95 x96 x97 x98 x99 x100 x101 x102 x103 x104 x105 x106 x107 x108 x109 x110 x111 x112 x113 x114 x115 x116 x117 x118 x119 x120 x121 x122 x123 x124 x125 x126 x127 x128 x129 x130 x131 x132 x133 x134 x135 x136 x137 x138 x139 x140 x141 x142 x143 x144 x145 x146 x147 x148 x149 x150 x151 x152 x153 x154 x155 x156 x157 x158 x159 x160 x161 x162 x163 x164 x165 x166 x167 x168 x169 x170 x171 x172 x173 x174 x175 x176 x177 x178 x179 x180 x181 x182 x183 x184 x185 x186 x187 x188 x189 x190 x191 x192 x193 x194 x195 x196 x197 x198 x199 x200 x201 x202 x203 x204 x205 x206 x207 x208 x209 x210 x211 x212 x213 x214 x215 x216 x217 x218 x219 x220 x221 x222 x223 x224 x225 x226 x227 x228 x229 x230 x231 x232 x233 x234 x235 x236 : Value}, FK w m code more G H Q pc qc pm qm → Below w.heap.size w wr → BxW wr a7 G → BxW wr a8 H → BxW wr a9 Q → BxW wr a15 (liftZ m G (upU m Q G H)) → BxW wr a16 (liftZ m H (upV m Q G H)) → LiftC m Q G H → BdI 1000000 Q → (dropC 17 fnLiftCode).wp Try.prog (bodyPost Try.prog Try.f3 (RB true w)) ⟨List.toArray (.slice pc code.length qc :: .slice pm more.length qm :: x2 :: x3 :: x4 :: x5 :: .int .i64 m :: .pointer (some ⟨a7, 0, none⟩) :: .pointer (some ⟨a8, 0, none⟩) :: .pointer (some ⟨a9, 0, none⟩) :: x10 :: x11 :: x12 :: x13 :: x14 :: .pointer (some ⟨a15, 0, none⟩) :: .pointer (some ⟨a16, 0, none⟩) :: x17 :: .int .i64 (m * m) :: x19 :: x20 :: x21 :: x22 :: x23 :: x24 :: x25 :: x26 :: x27 :: x28 :: x29 :: x30 :: x31 :: x32 :: x33 :: x34 :: x35 :: x36 :: x37 :: x38 :: x39 :: x40 :: x41 :: x42 :: x43 :: x44 :: x45 :: x46 :: x47 :: x48 :: x49 :: x50 :: x51 :: x52 :: x53 :: x54 :: x55 :: x56 :: x57 :: x58 :: x59 :: x60 :: x61 :: x62 :: x63 :: x64 :: x65 :: x66 :: x67 :: x68 :: x69 :: x70 :: x71 :: x72 :: x73 :: x74 :: x75 :: x76 :: x77 :: x78 :: x79 :: x80 :: x81 :: x82 :: x83 :: x84 :: x85 :: x86 :: x87 :: x88 :: x89 :: x90 :: x91 :: x92 :: x93 :: x94 :: x95 :: x96 :: x97 :: x98 :: x99 :: x100 :: x101 :: x102 :: x103 :: x104 :: x105 :: x106 :: x107 :: x108 :: x109 :: x110 :: x111 :: x112 :: x113 :: x114 :: x115 :: x116 :: x117 :: x118 :: x119 :: x120 :: x121 :: x122 :: x123 :: x124 :: x125 :: x126 :: x127 :: x128 :: x129 :: x130 :: x131 :: x132 :: x133 :: x134 :: x135 :: x136 :: x137 :: x138 :: x139 :: x140 :: x141 :: x142 :: x143 :: x144 :: x145 :: x146 :: x147 :: x148 :: x149 :: x150 :: x151 :: x152 :: x153 :: x154 :: x155 :: x156 :: x157 :: x158 :: x159 :: x160 :: x161 :: x162 :: x163 :: x164 :: x165 :: x166 :: x167 :: x168 :: x169 :: x170 :: x171 :: x172 :: x173 :: x174 :: x175 :: x176 :: x177 :: x178 :: x179 :: x180 :: x181 :: x182 :: x183 :: x184 :: x185 :: x186 :: x187 :: x188 :: x189 :: x190 :: x191 :: x192 :: x193 :: x194 :: x195 :: x196 :: x197 :: x198 :: x199 :: x200 :: x201 :: x202 :: x203 :: x204 :: x205 :: x206 :: x207 :: x208 :: x209 :: x210 :: x211 :: x212 :: x213 :: x214 :: x215 :: x216 :: x217 :: x218 :: x219 :: x220 :: x221 :: x222 :: x223 :: x224 :: x225 :: x226 :: x227 :: x228 :: x229 :: x230 :: x231 :: x232 :: x233 :: x234 :: x235 :: x236 :: []), []⟩ wr

set_option maxRecDepth 100000 in
/-- What follows from statement 18 on. -/
def FT18 : Prop := ∀ {w : World} {m : Int} {code more G H Q : List Int} {pc : Option Addr} {qc : Nat} {pm : Option Addr} {qm : Nat} {wr : World} {a7 a8 a9 : Nat} {a15 a16 : Nat} {x2 x3 x4 x5 x10 x11 x12 x13 x14 x17 x19 x20 x21 x22 x23 x24 x25 x26 x27 x28 x29 x30 x31 x32 x33 x34 x35 x36 x37 x38 x39 x40 x41 x42 x43 x44 x45 x46 x47 x48 x49 x50 x51 x52 x53 x54 x55 x56 x57 x58 x59 x60 x61 x62 x63 x64 x65 x66 x67 x68 x69 x70 x71 x72 x73 x74 x75 x76 x77 x78 x79 x80 x81 x82 x83 x84 x85 x86 x87 x88 x89 x90 x91 x92 x93 x94 x95 x96 x97 x98 x99 x100 x101 x102 x103 x104 x105 x106 x107 x108 x109 x110 x111 x112 x113 x114 x115 x116 x117 x118 x119 x120 x121 x122 x123 x124 x125 x126 x127 x128 x129 x130 x131 x132 x133 x134 x135 x136 x137 x138 x139 x140 x141 x142 x143 x144 x145 x146 x147 x148 x149 x150 x151 x152 x153 x154 x155 x156 x157 x158 x159 x160 x161 x162 x163 x164 x165 x166 x167 x168 x169 x170 x171 x172 x173 x174 x175 x176 x177 x178 x179 x180 x181 x182 x183 x184 x185 x186 x187 x188 x189 x190 x191 x192 x193 x194 x195 x196 x197 x198 x199 x200 x201 x202 x203 x204 x205 x206 x207 x208 x209 x210 x211 x212 x213 x214 x215 x216 x217 x218 x219 x220 x221 x222 x223 x224 x225 x226 x227 x228 x229 x230 x231 x232 x233 x234 x235 x236 : Value}, FK w m code more G H Q pc qc pm qm → Below w.heap.size w wr → BxW wr a7 G → BxW wr a8 H → BxW wr a9 Q → BxW wr a15 (liftZ m G (upU m Q G H)) → BxW wr a16 (liftZ m H (upV m Q G H)) → LiftC m Q G H → BdI 1000000 Q → (dropC 18 fnLiftCode).wp Try.prog (bodyPost Try.prog Try.f3 (RB true w)) ⟨List.toArray (.slice pc code.length qc :: .slice pm more.length qm :: x2 :: x3 :: x4 :: x5 :: .int .i64 m :: .pointer (some ⟨a7, 0, none⟩) :: .pointer (some ⟨a8, 0, none⟩) :: .pointer (some ⟨a9, 0, none⟩) :: x10 :: x11 :: x12 :: x13 :: x14 :: .pointer (some ⟨a15, 0, none⟩) :: .pointer (some ⟨a16, 0, none⟩) :: x17 :: .int .i64 (m * m) :: x19 :: x20 :: x21 :: x22 :: x23 :: x24 :: x25 :: x26 :: x27 :: x28 :: x29 :: x30 :: x31 :: x32 :: x33 :: x34 :: x35 :: x36 :: x37 :: x38 :: x39 :: x40 :: x41 :: x42 :: x43 :: x44 :: x45 :: x46 :: x47 :: x48 :: x49 :: x50 :: x51 :: x52 :: x53 :: x54 :: x55 :: x56 :: x57 :: x58 :: x59 :: x60 :: x61 :: x62 :: x63 :: x64 :: x65 :: x66 :: x67 :: x68 :: x69 :: x70 :: x71 :: x72 :: x73 :: x74 :: x75 :: x76 :: x77 :: x78 :: x79 :: x80 :: x81 :: x82 :: x83 :: x84 :: x85 :: x86 :: x87 :: x88 :: x89 :: x90 :: x91 :: x92 :: x93 :: x94 :: x95 :: x96 :: x97 :: x98 :: x99 :: x100 :: x101 :: x102 :: x103 :: x104 :: x105 :: x106 :: x107 :: x108 :: x109 :: x110 :: x111 :: x112 :: x113 :: x114 :: x115 :: x116 :: x117 :: x118 :: x119 :: x120 :: x121 :: x122 :: x123 :: x124 :: x125 :: x126 :: x127 :: x128 :: x129 :: x130 :: x131 :: x132 :: x133 :: x134 :: x135 :: x136 :: x137 :: x138 :: x139 :: x140 :: x141 :: x142 :: x143 :: x144 :: x145 :: x146 :: x147 :: x148 :: x149 :: x150 :: x151 :: x152 :: x153 :: x154 :: x155 :: x156 :: x157 :: x158 :: x159 :: x160 :: x161 :: x162 :: x163 :: x164 :: x165 :: x166 :: x167 :: x168 :: x169 :: x170 :: x171 :: x172 :: x173 :: x174 :: x175 :: x176 :: x177 :: x178 :: x179 :: x180 :: x181 :: x182 :: x183 :: x184 :: x185 :: x186 :: x187 :: x188 :: x189 :: x190 :: x191 :: x192 :: x193 :: x194 :: x195 :: x196 :: x197 :: x198 :: x199 :: x200 :: x201 :: x202 :: x203 :: x204 :: x205 :: x206 :: x207 :: x208 :: x209 :: x210 :: x211 :: x212 :: x213 :: x214 :: x215 :: x216 :: x217 :: x218 :: x219 :: x220 :: x221 :: x222 :: x223 :: x224 :: x225 :: x226 :: x227 :: x228 :: x229 :: x230 :: x231 :: x232 :: x233 :: x234 :: x235 :: x236 :: []), []⟩ wr

set_option maxRecDepth 100000 in
/-- What follows from statement 19 on. -/
def FT19 : Prop := ∀ {w : World} {m : Int} {code more G H Q : List Int} {pc : Option Addr} {qc : Nat} {pm : Option Addr} {qm : Nat} {wr : World} {a7 a8 a9 : Nat} {a15 a16 : Nat} {x2 x3 x4 x5 x10 x11 x12 x13 x14 x17 x19 x20 x21 x22 x23 x24 x25 x26 x27 x28 x29 x30 x31 x32 x33 x34 x35 x36 x37 x38 x39 x40 x41 x42 x43 x44 x45 x46 x47 x48 x49 x50 x51 x52 x53 x54 x55 x56 x57 x58 x59 x60 x61 x62 x63 x64 x65 x66 x67 x68 x69 x70 x71 x72 x73 x74 x75 x76 x77 x78 x79 x80 x81 x82 x83 x84 x85 x86 x87 x88 x89 x90 x91 x92 x93 x94 x95 x96 x97 x98 x99 x100 x101 x102 x103 x104 x105 x106 x107 x108 x109 x110 x111 x112 x113 x114 x115 x116 x117 x118 x119 x120 x121 x122 x123 x124 x125 x126 x127 x128 x129 x130 x131 x132 x133 x134 x135 x136 x137 x138 x139 x140 x141 x142 x143 x144 x145 x146 x147 x148 x149 x150 x151 x152 x153 x154 x155 x156 x157 x158 x159 x160 x161 x162 x163 x164 x165 x166 x167 x168 x169 x170 x171 x172 x173 x174 x175 x176 x177 x178 x179 x180 x181 x182 x183 x184 x185 x186 x187 x188 x189 x190 x191 x192 x193 x194 x195 x196 x197 x198 x199 x200 x201 x202 x203 x204 x205 x206 x207 x208 x209 x210 x211 x212 x213 x214 x215 x216 x217 x218 x219 x220 x221 x222 x223 x224 x225 x226 x227 x228 x229 x230 x231 x232 x233 x234 x235 x236 : Value}, FK w m code more G H Q pc qc pm qm → Below w.heap.size w wr → BxW wr a7 G → BxW wr a8 H → BxW wr a9 Q → BxW wr a15 (liftZ m G (upU m Q G H)) → BxW wr a16 (liftZ m H (upV m Q G H)) → LiftC m Q G H → BdI 1000000 Q → (dropC 19 fnLiftCode).wp Try.prog (bodyPost Try.prog Try.f3 (RB true w)) ⟨List.toArray (.slice pc code.length qc :: .slice pm more.length qm :: x2 :: x3 :: x4 :: x5 :: .int .i64 m :: .pointer (some ⟨a7, 0, none⟩) :: .pointer (some ⟨a8, 0, none⟩) :: .pointer (some ⟨a9, 0, none⟩) :: x10 :: x11 :: x12 :: x13 :: x14 :: .pointer (some ⟨a15, 0, none⟩) :: .pointer (some ⟨a16, 0, none⟩) :: x17 :: .int .i64 (m * m) :: x19 :: x20 :: x21 :: x22 :: x23 :: x24 :: x25 :: x26 :: x27 :: x28 :: x29 :: x30 :: x31 :: x32 :: x33 :: x34 :: x35 :: x36 :: x37 :: x38 :: x39 :: x40 :: x41 :: x42 :: x43 :: x44 :: x45 :: x46 :: x47 :: x48 :: x49 :: x50 :: x51 :: x52 :: x53 :: x54 :: x55 :: x56 :: x57 :: x58 :: x59 :: x60 :: x61 :: x62 :: x63 :: x64 :: x65 :: x66 :: x67 :: x68 :: x69 :: x70 :: x71 :: x72 :: x73 :: x74 :: x75 :: x76 :: x77 :: x78 :: x79 :: x80 :: x81 :: x82 :: x83 :: x84 :: x85 :: x86 :: x87 :: x88 :: x89 :: x90 :: x91 :: x92 :: x93 :: x94 :: x95 :: x96 :: x97 :: x98 :: x99 :: x100 :: x101 :: x102 :: x103 :: x104 :: x105 :: x106 :: x107 :: x108 :: x109 :: x110 :: x111 :: x112 :: x113 :: x114 :: x115 :: x116 :: x117 :: x118 :: x119 :: x120 :: x121 :: x122 :: x123 :: x124 :: x125 :: x126 :: x127 :: x128 :: x129 :: x130 :: x131 :: x132 :: x133 :: x134 :: x135 :: x136 :: x137 :: x138 :: x139 :: x140 :: x141 :: x142 :: x143 :: x144 :: x145 :: x146 :: x147 :: x148 :: x149 :: x150 :: x151 :: x152 :: x153 :: x154 :: x155 :: x156 :: x157 :: x158 :: x159 :: x160 :: x161 :: x162 :: x163 :: x164 :: x165 :: x166 :: x167 :: x168 :: x169 :: x170 :: x171 :: x172 :: x173 :: x174 :: x175 :: x176 :: x177 :: x178 :: x179 :: x180 :: x181 :: x182 :: x183 :: x184 :: x185 :: x186 :: x187 :: x188 :: x189 :: x190 :: x191 :: x192 :: x193 :: x194 :: x195 :: x196 :: x197 :: x198 :: x199 :: x200 :: x201 :: x202 :: x203 :: x204 :: x205 :: x206 :: x207 :: x208 :: x209 :: x210 :: x211 :: x212 :: x213 :: x214 :: x215 :: x216 :: x217 :: x218 :: x219 :: x220 :: x221 :: x222 :: x223 :: x224 :: x225 :: x226 :: x227 :: x228 :: x229 :: x230 :: x231 :: x232 :: x233 :: x234 :: x235 :: x236 :: []), []⟩ wr
end Go.Proofs.Ytlnjkjogedbhfaa
