/- CommonWhole of the reference. Conditions: lengths of at most 2^40. -/
import Derived.Test.YtlnjkjogedbhfaaI25
namespace Go.Proofs.Ytlnjkjogedbhfaa
open Go Go.RowKit
set_option linter.unusedSimpArgs false
set_option linter.unusedVariables false

theorem commonW_no {a b : List Int} (h : (validB a && validB b) = false) : commonW a b = ([], false) := by rw [commonW, if_neg (by rw [h]; simp)]
theorem greatZ_len {a b g : List Int} (ha : Vld a) (hb : Vld b) (h : greatZ a b = some g) : g.length ≤ 17 ∧ g ≠ [] := by
  unfold greatZ at h
  cases hg : gcdW (pairZ (primZ a) (primZ b)).1 (pairZ (primZ a) (primZ b)).2 with
  | none => rw [hg] at h; cases h
  | some x =>
    rw [hg] at h
    simp only [Option.map_some, Option.some.injEq] at h
    subst h
    have hp : Vld (pairZ (primZ a) (primZ b)).1 ∧ Vld (pairZ (primZ a) (primZ b)).2 := by
      unfold pairZ
      split
      · exact ⟨prim_vld hb, prim_vld ha⟩
      · exact ⟨prim_vld ha, prim_vld hb⟩
    have hx := gwZ_vld hp.1 hp.2 hg
    refine ⟨by rw [timesZ, List.length_map]; exact hx.len, fun h => ?_⟩
    rw [timesZ, List.map_eq_nil_iff] at h
    exact hx.ne h

set_option maxRecDepth 100000 in
set_option maxHeartbeats 1600000 in
theorem CommonWhole_spec (va vb : Value) (a b : List Int) (w : World) (ha : RdI w va a) (hb : RdI w vb b) (hla : a.length ≤ 1099511627776) (hlb : b.length ≤ 1099511627776) : Calls Try.prog 40 #[.agg #[va], .agg #[vb]] w (RWB (commonW a b) w) := by
  have Ha := Lib.hid ha
  have Hb := Lib.hid hb
  obtain ⟨aoa, ca, rfl⟩ := ha.shape
  obtain ⟨aob, cb, rfl⟩ := hb.shape
  clear ha hb
  cases hqa : validB a
  · have Ho := Lib.hid (commonW_no (a := a) (b := b) (by rw [hqa]; rfl))
    go_enter Try.func40, Try.ntmps40
    go_wp2_with fail
    (go_at_call 65; ((with_reducible refine (is_spec _ _ a _ (by go_simp) (Ha.out.below (by (repeat' (first | (with_reducible exact Below.refl _ _) | (with_reducible assumption) | (with_reducible refine Below.alloc ?_ ?_ _) | (with_reducible refine Below.setCell ?_ ?_ _) | (with_reducible refine Below.drew ?_) | (with_reducible refine Below.via (by assumption) ?_ ?_) | go_size)))) hla).mono ?_); rintro e w' ⟨rfl, rfl⟩))
    go_wp2_with fail
    (try simp only [Exit.inBlock, Exit.then]); refine bodyPost_ret (by simp [results, Try.results40, go_sem, *]; try rfl) rfl ?_
    rw [Ho.out]
    exact ⟨_, rfl, OwI.nil _ _, by (repeat' (first | (with_reducible exact Below.refl _ _) | (with_reducible assumption) | (with_reducible refine Below.alloc ?_ ?_ _) | (with_reducible refine Below.setCell ?_ ?_ _) | (with_reducible refine Below.drew ?_) | (with_reducible refine Below.via (by assumption) ?_ ?_) | go_size))⟩
  cases hqb : validB b
  · have Ho := Lib.hid (commonW_no (a := a) (b := b) (by rw [hqa, hqb]; rfl))
    go_enter Try.func40, Try.ntmps40
    go_wp2_with fail
    (go_at_call 65; ((with_reducible refine (is_spec _ _ a _ (by go_simp) (Ha.out.below (by (repeat' (first | (with_reducible exact Below.refl _ _) | (with_reducible assumption) | (with_reducible refine Below.alloc ?_ ?_ _) | (with_reducible refine Below.setCell ?_ ?_ _) | (with_reducible refine Below.drew ?_) | (with_reducible refine Below.via (by assumption) ?_ ?_) | go_size)))) hla).mono ?_); rintro e w' ⟨rfl, rfl⟩))
    go_wp2_with fail
    (go_at_call 65; ((with_reducible refine (is_spec _ _ b _ (by go_simp) (Hb.out.below (by (repeat' (first | (with_reducible exact Below.refl _ _) | (with_reducible assumption) | (with_reducible refine Below.alloc ?_ ?_ _) | (with_reducible refine Below.setCell ?_ ?_ _) | (with_reducible refine Below.drew ?_) | (with_reducible refine Below.via (by assumption) ?_ ?_) | go_size)))) hlb).mono ?_); rintro e w' ⟨rfl, rfl⟩))
    go_wp2_with fail
    (try simp only [Exit.inBlock, Exit.then]); refine bodyPost_ret (by simp [results, Try.results40, go_sem, *]; try rfl) rfl ?_
    rw [Ho.out]
    exact ⟨_, rfl, OwI.nil _ _, by (repeat' (first | (with_reducible exact Below.refl _ _) | (with_reducible assumption) | (with_reducible refine Below.alloc ?_ ?_ _) | (with_reducible refine Below.setCell ?_ ?_ _) | (with_reducible refine Below.drew ?_) | (with_reducible refine Below.via (by assumption) ?_ ?_) | go_size))⟩
  have Ho := Lib.hid (commonW_eq (a := a) (b := b) (by rw [hqa, hqb]; rfl))
  have Hva := Lib.hid (validB_iff.1 hqa)
  have Hvb := Lib.hid (validB_iff.1 hqb)
  have HL := Lib.hid (fun g => greatZ_len (g := g) (validB_iff.1 hqa) (validB_iff.1 hqb))
  go_enter Try.func40, Try.ntmps40
  go_wp2_with fail
  (go_at_call 65; ((with_reducible refine (is_spec _ _ a _ (by go_simp) (Ha.out.below (by (repeat' (first | (with_reducible exact Below.refl _ _) | (with_reducible assumption) | (with_reducible refine Below.alloc ?_ ?_ _) | (with_reducible refine Below.setCell ?_ ?_ _) | (with_reducible refine Below.drew ?_) | (with_reducible refine Below.via (by assumption) ?_ ?_) | go_size)))) hla).mono ?_); rintro e w' ⟨rfl, rfl⟩))
  go_wp2_with fail
  (go_at_call 65; ((with_reducible refine (is_spec _ _ b _ (by go_simp) (Hb.out.below (by (repeat' (first | (with_reducible exact Below.refl _ _) | (with_reducible assumption) | (with_reducible refine Below.alloc ?_ ?_ _) | (with_reducible refine Below.setCell ?_ ?_ _) | (with_reducible refine Below.drew ?_) | (with_reducible refine Below.via (by assumption) ?_ ?_) | go_size)))) hlb).mono ?_); rintro e w' ⟨rfl, rfl⟩))
  go_wp2_with fail
  (go_at_call 110; ((with_reducible refine (great_ref _ _ a b _ (Ha.out.below (by (repeat' (first | (with_reducible exact Below.refl _ _) | (with_reducible assumption) | (with_reducible refine Below.alloc ?_ ?_ _) | (with_reducible refine Below.setCell ?_ ?_ _) | (with_reducible refine Below.drew ?_) | (with_reducible refine Below.via (by assumption) ?_ ?_) | go_size)))) (Hb.out.below (by (repeat' (first | (with_reducible exact Below.refl _ _) | (with_reducible assumption) | (with_reducible refine Below.alloc ?_ ?_ _) | (with_reducible refine Below.setCell ?_ ?_ _) | (with_reducible refine Below.drew ?_) | (with_reducible refine Below.via (by assumption) ?_ ?_) | go_size)))) Hva.out Hvb.out).mono ?_); rintro e w' ⟨v1, rfl, hr1, hb1⟩))
  clear hqa hqb
  obtain ⟨ch, fh⟩ := bcell hb1
  have hz := hb1.size
  simp only [World.size_alloc] at hz
  have lw0 : w.heap.size < w'.heap.size := by omega
  have lw1 : w.heap.size + 1 < w'.heap.size := by omega
  have lw2 : w.heap.size + 1 + 1 < w'.heap.size := by omega
  have Hb1 := Lib.hid (show Below w.heap.size w w' by (repeat' (first | (with_reducible exact Below.refl _ _) | (with_reducible assumption) | (with_reducible refine Below.alloc ?_ ?_ _) | (with_reducible refine Below.setCell ?_ ?_ _) | (with_reducible refine Below.drew ?_) | (with_reducible refine Below.via (by assumption) ?_ ?_) | go_size)))
  obtain ⟨ao1, c1, rfl⟩ := hr1.shape
  have Hr1 := Lib.hid hr1
  clear hr1 hb1
  generalize greatZ a b = G at *
  cases G with
  | none =>
    simp only [Option.isSome_none, Option.getD_none, List.length_nil] at *
    go_wp2_with fail
    (try simp only [Exit.inBlock, Exit.then]); refine bodyPost_ret (by simp [results, Try.results40, go_sem, *]; try rfl) rfl ?_
    rw [Ho.out]
    exact ⟨_, rfl, OwI.nil _ _, by have h := Hb1.out; (repeat' (first | (with_reducible exact Below.refl _ _) | (with_reducible assumption) | (with_reducible refine Below.alloc ?_ ?_ _) | (with_reducible refine Below.setCell ?_ ?_ _) | (with_reducible refine Below.drew ?_) | (with_reducible refine Below.via (by assumption) ?_ ?_) | go_size))⟩
  | some g =>
    have hgl := (HL.out g rfl).1
    have Hgn := Lib.hid (HL.out g rfl).2
    simp only [Option.isSome_some, Option.getD_some] at *
    go_wp2_with fail
    (go_at_call 66; ((with_reducible refine (give_spec _ _ _ Hr1.out (by omega)).mono ?_); rintro e w2 ⟨v2, rfl, ho2, hb2⟩))
    have Ho2 := Lib.hid (show OwI w2 w'.heap.size v2 (giveF (trimZ g)).1 by have h := ho2; rw [trimS_eq Hgn.out] at h; exact h)
    rw [trimS_eq Hgn.out]
    obtain ⟨ch2, fh2⟩ := bcell hb2
    have hz2 := hb2.size
    have lr2 : w.heap.size + 1 + 1 < w2.heap.size := by omega
    obtain ⟨ao2, c2, rfl⟩ := Ho2.out.rd.shape
    have Hb2 := Lib.hid hb2
    clear ho2 hb2
    generalize giveF (trimZ g) = R at *
    go_wp2_with fail
    (try simp only [Exit.inBlock, Exit.then]); refine bodyPost_ret (by simp [results, Try.results40, go_sem, *]; try rfl) rfl ?_
    rw [Ho.out]
    have hb1 := Hb1.out
    have hb2 := Hb2.out
    exact ⟨_, rfl, OwI.mono (B := w'.heap.size) (OwI.setCell Ho2.out (by show w.heap.size + 1 + 1 < _; omega) _) (by omega), by (repeat' (first | (with_reducible exact Below.refl _ _) | (with_reducible assumption) | (with_reducible refine Below.alloc ?_ ?_ _) | (with_reducible refine Below.setCell ?_ ?_ _) | (with_reducible refine Below.drew ?_) | (with_reducible refine Below.via (by assumption) ?_ ?_) | go_size))⟩

end Go.Proofs.Ytlnjkjogedbhfaa
