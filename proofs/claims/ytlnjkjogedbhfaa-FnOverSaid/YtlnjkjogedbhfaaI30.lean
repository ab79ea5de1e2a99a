/- ExactQuotient of the reference. Conditions: lengths of at most 2^40. -/
import Derived.Test.YtlnjkjogedbhfaaI29
namespace Go.Proofs.Ytlnjkjogedbhfaa
open Go Go.RowKit
set_option linter.unusedSimpArgs false
set_option linter.unusedVariables false

theorem quoR_no {a b : List Int} (h : (validB a && validB b && !zeroB b) = false) : quoR a b = ([], false) := by rw [quoR, if_neg (by rw [h]; simp)]
theorem quoR_yes {a b : List Int} (h : (validB a && validB b && !zeroB b) = true) : quoR a b = match quoZ a b with | none => ([], false) | some o => giveF (trimZ o) := by
  unfold quoR
  rw [if_pos h]
  cases quoZ a b <;> rfl

set_option maxRecDepth 100000 in
set_option maxHeartbeats 1600000 in
theorem ExactQuotient_spec (va vb : Value) (a b : List Int) (w : World) (ha : RdI w va a) (hb : RdI w vb b) (hla : a.length ≤ 1099511627776) (hlb : b.length ≤ 1099511627776) : Calls Try.prog 115 #[.agg #[va], .agg #[vb]] w (RWB (quoR a b) w) := by
  have Ha := Lib.hid ha
  have Hb := Lib.hid hb
  obtain ⟨aoa, ca, rfl⟩ := ha.shape
  obtain ⟨aob, cb, rfl⟩ := hb.shape
  clear ha hb
  cases hqa : validB a
  · have Ho := Lib.hid (quoR_no (a := a) (b := b) (by rw [hqa]; rfl))
    go_enter Try.func115, Try.ntmps115
    go_wp2_with fail
    (go_at_call 65; ((with_reducible refine (is_spec _ _ a _ (by go_simp) (Ha.out.below (by (repeat' (first | (with_reducible exact Below.refl _ _) | (with_reducible assumption) | (with_reducible refine Below.alloc ?_ ?_ _) | (with_reducible refine Below.setCell ?_ ?_ _) | (with_reducible refine Below.drew ?_) | (with_reducible refine Below.via (by assumption) ?_ ?_) | go_size)))) hla).mono ?_); rintro e w' ⟨rfl, rfl⟩))
    go_wp2_with fail
    (try simp only [Exit.inBlock, Exit.then]); refine bodyPost_ret (by simp [results, Try.results115, go_sem, *]; try rfl) rfl ?_
    rw [Ho.out]
    exact ⟨_, rfl, OwI.nil _ _, by (repeat' (first | (with_reducible exact Below.refl _ _) | (with_reducible assumption) | (with_reducible refine Below.alloc ?_ ?_ _) | (with_reducible refine Below.setCell ?_ ?_ _) | (with_reducible refine Below.drew ?_) | (with_reducible refine Below.via (by assumption) ?_ ?_) | go_size))⟩
  cases hqb : validB b
  · have Ho := Lib.hid (quoR_no (a := a) (b := b) (by rw [hqa, hqb]; rfl))
    go_enter Try.func115, Try.ntmps115
    go_wp2_with fail
    (go_at_call 65; ((with_reducible refine (is_spec _ _ a _ (by go_simp) (Ha.out.below (by (repeat' (first | (with_reducible exact Below.refl _ _) | (with_reducible assumption) | (with_reducible refine Below.alloc ?_ ?_ _) | (with_reducible refine Below.setCell ?_ ?_ _) | (with_reducible refine Below.drew ?_) | (with_reducible refine Below.via (by assumption) ?_ ?_) | go_size)))) hla).mono ?_); rintro e w' ⟨rfl, rfl⟩))
    go_wp2_with fail
    (go_at_call 65; ((with_reducible refine (is_spec _ _ b _ (by go_simp) (Hb.out.below (by (repeat' (first | (with_reducible exact Below.refl _ _) | (with_reducible assumption) | (with_reducible refine Below.alloc ?_ ?_ _) | (with_reducible refine Below.setCell ?_ ?_ _) | (with_reducible refine Below.drew ?_) | (with_reducible refine Below.via (by assumption) ?_ ?_) | go_size)))) hlb).mono ?_); rintro e w' ⟨rfl, rfl⟩))
    go_wp2_with fail
    (try simp only [Exit.inBlock, Exit.then]); refine bodyPost_ret (by simp [results, Try.results115, go_sem, *]; try rfl) rfl ?_
    rw [Ho.out]
    exact ⟨_, rfl, OwI.nil _ _, by (repeat' (first | (with_reducible exact Below.refl _ _) | (with_reducible assumption) | (with_reducible refine Below.alloc ?_ ?_ _) | (with_reducible refine Below.setCell ?_ ?_ _) | (with_reducible refine Below.drew ?_) | (with_reducible refine Below.via (by assumption) ?_ ?_) | go_size))⟩
  cases hqz : zeroB b
  case true =>
    have Ho := Lib.hid (quoR_no (a := a) (b := b) (by rw [hqa, hqb, hqz]; rfl))
    go_enter Try.func115, Try.ntmps115
    go_wp2_with fail
    (go_at_call 65; ((with_reducible refine (is_spec _ _ a _ (by go_simp) (Ha.out.below (by (repeat' (first | (with_reducible exact Below.refl _ _) | (with_reducible assumption) | (with_reducible refine Below.alloc ?_ ?_ _) | (with_reducible refine Below.setCell ?_ ?_ _) | (with_reducible refine Below.drew ?_) | (with_reducible refine Below.via (by assumption) ?_ ?_) | go_size)))) hla).mono ?_); rintro e w' ⟨rfl, rfl⟩))
    go_wp2_with fail
    (go_at_call 65; ((with_reducible refine (is_spec _ _ b _ (by go_simp) (Hb.out.below (by (repeat' (first | (with_reducible exact Below.refl _ _) | (with_reducible assumption) | (with_reducible refine Below.alloc ?_ ?_ _) | (with_reducible refine Below.setCell ?_ ?_ _) | (with_reducible refine Below.drew ?_) | (with_reducible refine Below.via (by assumption) ?_ ?_) | go_size)))) hlb).mono ?_); rintro e w' ⟨rfl, rfl⟩))
    go_wp2_with fail
    (go_at_call 123; ((with_reducible refine (zero_spec _ b _ (Hb.out.below (by (repeat' (first | (with_reducible exact Below.refl _ _) | (with_reducible assumption) | (with_reducible refine Below.alloc ?_ ?_ _) | (with_reducible refine Below.setCell ?_ ?_ _) | (with_reducible refine Below.drew ?_) | (with_reducible refine Below.via (by assumption) ?_ ?_) | go_size)))) hlb).mono ?_); rintro e w' ⟨rfl, rfl⟩))
    go_wp2_with fail
    (try simp only [Exit.inBlock, Exit.then]); refine bodyPost_ret (by simp [results, Try.results115, go_sem, *]; try rfl) rfl ?_
    rw [Ho.out]
    exact ⟨_, rfl, OwI.nil _ _, by (repeat' (first | (with_reducible exact Below.refl _ _) | (with_reducible assumption) | (with_reducible refine Below.alloc ?_ ?_ _) | (with_reducible refine Below.setCell ?_ ?_ _) | (with_reducible refine Below.drew ?_) | (with_reducible refine Below.via (by assumption) ?_ ?_) | go_size))⟩
  have Ho := Lib.hid (quoR_yes (a := a) (b := b) (by rw [hqa, hqb, hqz]; rfl))
  have Hva := Lib.hid (validB_iff.1 hqa)
  have Hvb := Lib.hid (validB_iff.1 hqb)
  have Hzb := Lib.hid hqz
  have HL := Lib.hid (fun o => quoZ_len (o := o) (validB_iff.1 hqa) (validB_iff.1 hqb))
  go_enter Try.func115, Try.ntmps115
  go_wp2_with fail
  (go_at_call 65; ((with_reducible refine (is_spec _ _ a _ (by go_simp) (Ha.out.below (by (repeat' (first | (with_reducible exact Below.refl _ _) | (with_reducible assumption) | (with_reducible refine Below.alloc ?_ ?_ _) | (with_reducible refine Below.setCell ?_ ?_ _) | (with_reducible refine Below.drew ?_) | (with_reducible refine Below.via (by assumption) ?_ ?_) | go_size)))) hla).mono ?_); rintro e w' ⟨rfl, rfl⟩))
  go_wp2_with fail
  (go_at_call 65; ((with_reducible refine (is_spec _ _ b _ (by go_simp) (Hb.out.below (by (repeat' (first | (with_reducible exact Below.refl _ _) | (with_reducible assumption) | (with_reducible refine Below.alloc ?_ ?_ _) | (with_reducible refine Below.setCell ?_ ?_ _) | (with_reducible refine Below.drew ?_) | (with_reducible refine Below.via (by assumption) ?_ ?_) | go_size)))) hlb).mono ?_); rintro e w' ⟨rfl, rfl⟩))
  go_wp2_with fail
  (go_at_call 123; ((with_reducible refine (zero_spec _ b _ (Hb.out.below (by (repeat' (first | (with_reducible exact Below.refl _ _) | (with_reducible assumption) | (with_reducible refine Below.alloc ?_ ?_ _) | (with_reducible refine Below.setCell ?_ ?_ _) | (with_reducible refine Below.drew ?_) | (with_reducible refine Below.via (by assumption) ?_ ?_) | go_size)))) hlb).mono ?_); rintro e w' ⟨rfl, rfl⟩))
  go_wp2_with fail
  (go_at_call 139; ((with_reducible refine (divide_ref _ _ a b _ (Ha.out.below (by (repeat' (first | (with_reducible exact Below.refl _ _) | (with_reducible assumption) | (with_reducible refine Below.alloc ?_ ?_ _) | (with_reducible refine Below.setCell ?_ ?_ _) | (with_reducible refine Below.drew ?_) | (with_reducible refine Below.via (by assumption) ?_ ?_) | go_size)))) (Hb.out.below (by (repeat' (first | (with_reducible exact Below.refl _ _) | (with_reducible assumption) | (with_reducible refine Below.alloc ?_ ?_ _) | (with_reducible refine Below.setCell ?_ ?_ _) | (with_reducible refine Below.drew ?_) | (with_reducible refine Below.via (by assumption) ?_ ?_) | go_size)))) Hva.out Hvb.out Hzb.out).mono ?_); rintro e w' ⟨v1, rfl, hr1, hb1⟩))
  clear hqa hqb hqz
  obtain ⟨ch, fh⟩ := bcell hb1
  have hz := hb1.size
  simp only [World.size_alloc] at hz
  have lw0 : w.heap.size < w'.heap.size := by omega
  have lw1 : w.heap.size + 1 < w'.heap.size := by omega
  have lw2 : w.heap.size + 1 + 1 < w'.heap.size := by omega
  have Hb1 := Lib.hid (show Below w.heap.size w w' by (repeat' (first | (with_reducible exact Below.refl _ _) | (with_reducible assumption) | (with_reducible refine Below.alloc ?_ ?_ _) | (with_reducible refine Below.setCell ?_ ?_ _) | (with_reducible refine Below.drew ?_) | (with_reducible refine Below.via (by assumption) ?_ ?_) | go_size)))
  obtain ⟨ao1, c1, rfl⟩ := hr1.shape
  have Hr1 := Lib.hid hr1
  clear hr1 hb1
  generalize quoZ a b = G at *
  cases G with
  | none =>
    simp only [Option.isSome_none, Option.getD_none, List.length_nil] at *
    go_wp2_with fail
    (try simp only [Exit.inBlock, Exit.then]); refine bodyPost_ret (by simp [results, Try.results115, go_sem, *]; try rfl) rfl ?_
    rw [Ho.out]
    exact ⟨_, rfl, OwI.nil _ _, by have h := Hb1.out; (repeat' (first | (with_reducible exact Below.refl _ _) | (with_reducible assumption) | (with_reducible refine Below.alloc ?_ ?_ _) | (with_reducible refine Below.setCell ?_ ?_ _) | (with_reducible refine Below.drew ?_) | (with_reducible refine Below.via (by assumption) ?_ ?_) | go_size))⟩
  | some g =>
    have hgl := (HL.out g rfl).1
    have Hgn := Lib.hid (HL.out g rfl).2
    simp only [Option.isSome_some, Option.getD_some] at *
    go_wp2_with fail
    (go_at_call 66; ((with_reducible refine (give_spec _ _ _ Hr1.out (by omega)).mono ?_); rintro e w2 ⟨v2, rfl, ho2, hb2⟩))
    have Ho2 := Lib.hid (show OwI w2 w'.heap.size v2 (giveF (trimZ g)).1 by have h := ho2; rw [trimS_eq Hgn.out] at h; exact h)
    rw [trimS_eq Hgn.out]
    obtain ⟨ch2, fh2⟩ := bcell hb2
    have hz2 := hb2.size
    have lr2 : w.heap.size + 1 + 1 < w2.heap.size := by omega
    obtain ⟨ao2, c2, rfl⟩ := Ho2.out.rd.shape
    have Hb2 := Lib.hid hb2
    clear ho2 hb2
    generalize giveF (trimZ g) = R at *
    go_wp2_with fail
    (try simp only [Exit.inBlock, Exit.then]); refine bodyPost_ret (by simp [results, Try.results115, go_sem, *]; try rfl) rfl ?_
    rw [Ho.out]
    have hb1 := Hb1.out
    have hb2 := Hb2.out
    exact ⟨_, rfl, OwI.mono (B := w'.heap.size) (OwI.setCell Ho2.out (by show w.heap.size + 1 + 1 < _; omega) _) (by omega), by (repeat' (first | (with_reducible exact Below.refl _ _) | (with_reducible assumption) | (with_reducible refine Below.alloc ?_ ?_ _) | (with_reducible refine Below.setCell ?_ ?_ _) | (with_reducible refine Below.drew ?_) | (with_reducible refine Below.via (by assumption) ?_ ?_) | go_size))⟩

end Go.Proofs.Ytlnjkjogedbhfaa
