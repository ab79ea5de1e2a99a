/- Products over a prime; powers over a prime, plain law. Conditions: terms are remainders of a small prime, lengths of at most 100. -/
import Derived.Test.YtlnjkjogedbhfaaI15
namespace Go.Proofs.Ytlnjkjogedbhfaa
open Go Go.RowKit
set_option linter.unusedSimpArgs false
set_option linter.unusedVariables false

theorem mulZ_bd {a b : List Int} (ha : BdI 1000 a) (hb : BdI 1000 b) (hl : a.length ≤ 100) : BdI 100000000 (mulZ a b) := by
  have h := mulRows_bound (a := a) (b := b) (M := 1000000) (by omega) (fun i k => by
    have := mul_bound (M := 1000) (by omega) (ha i) (hb k)
    have e : (1000 : Int) * 1000 = 1000000 := rfl
    rw [e] at this
    exact this) (bdI_zero (a.length + b.length - 1)) (by simp) a.length (Nat.le_refl _)
  intro i
  have h1 := h i
  have h2 : (a.length : Int) * 1000000 ≤ 100 * 1000000 := Int.mul_le_mul_of_nonneg_right (by omega) (by omega)
  unfold mulZ
  omega
theorem OwI.litZ {w : World} {B s : Nat} {z : Int} (hs : s = w.heap.size) (h : B ≤ s) : OwI (w.alloc (.cells #[.int .i64 z] 2)) B (.slice (some ⟨s, 0, none⟩) 1 1) [z] := by
  subst hs
  exact (OwI.of_row (n := 1) (World.ownsRow_lit (base := w.heap.size) (size := 1) w #[.int .i64 z] 1 (Nat.le_refl _) (by decide) rfl)).mono h
def mulF (m : Int) (a b : List Int) : List Int := trimZ (modsZ m (mulZ a b))
theorem mulZ_ne {a b : List Int} (ha : a ≠ []) (hb : b ≠ []) : mulZ a b ≠ [] := by
  have h1 := List.length_pos_iff.2 ha
  have h2 := List.length_pos_iff.2 hb
  exact List.ne_nil_of_length_pos (by rw [mulZ_length]; omega)
theorem mulF_len (m : Int) (a b : List Int) : (mulF m a b).length ≤ a.length + b.length - 1 := by
  rw [mulF, trimZ_length]
  have := trimN_le (modsZ m (mulZ a b))
  rw [modsZ_length, mulZ_length] at this
  exact this
theorem mulF_ovr {m : Int} (hm : 0 < m) {a b : List Int} (ha : Ovr m a) (hb : Ovr m b) (hl : a.length + b.length ≤ 101) : Ovr m (mulF m a b) :=
  ⟨trimZ_ov (mods_ov hm _), trimZ_trd (mods_ne (mulZ_ne ha.ne hb.ne)), by have := mulF_len m a b; omega⟩
theorem mulF_spec {m : Int} {a b : List Int} (ha : a ≠ []) (hb : b ≠ []) : trimS (modsZ m (mulZ a b)) = mulF m a b := trimS_eq (mods_ne (mulZ_ne ha hb))

set_option maxRecDepth 100000 in
set_option maxHeartbeats 800000 in
theorem mulOver_impl (va vb : Value) (a b : List Int) (m : Int) (w : World) (ha : RdI w va a) (hb : RdI w vb b) (hm : primeB m = true) (hoa : Ovr m a) (hob : Ovr m b) (hl : a.length + b.length ≤ 101) : Calls Try.prog 82 #[.agg #[va], .agg #[vb], .int .i64 m] w (RW (mulF m a b) w) := by
  have hmp := primeB_bd hm
  have Ha := Lib.hid ha
  have Hb := Lib.hid hb
  have hba := hoa.ov.bd (M := 1000) (by omega)
  have hbb := hob.ov.bd (M := 1000) (by omega)
  have Hbd := Lib.hid (show BdI 1000000000000000 (mulZ a b) from fun i => by have := mulZ_bd hba hbb hoa.len i; constructor <;> omega)
  have Hba := Lib.hid (show BdI 1000000 a from fun i => by have := hba i; constructor <;> omega)
  have Hbb := Lib.hid (show BdI 1000000 b from fun i => by have := hbb i; constructor <;> omega)
  have hla := List.length_pos_iff.2 hoa.ne
  have hlb := List.length_pos_iff.2 hob.ne
  obtain ⟨aoa, ca, rfl⟩ := ha.shape
  obtain ⟨aob, cb, rfl⟩ := hb.shape
  clear ha hb hba hbb hm
  go_enter Try.func82, Try.ntmps82
  go_wp2_with fail
  (go_at_call 84; ((with_reducible refine (product_impl _ _ a b _ (Ha.out.below (by (repeat' (first | (with_reducible exact Below.refl _ _) | (with_reducible assumption) | (with_reducible refine Below.alloc ?_ ?_ _) | (with_reducible refine Below.setCell ?_ ?_ _) | (with_reducible refine Below.drew ?_) | (with_reducible refine Below.via (by assumption) ?_ ?_) | go_size)))) (Hb.out.below (by (repeat' (first | (with_reducible exact Below.refl _ _) | (with_reducible assumption) | (with_reducible refine Below.alloc ?_ ?_ _) | (with_reducible refine Below.setCell ?_ ?_ _) | (with_reducible refine Below.drew ?_) | (with_reducible refine Below.via (by assumption) ?_ ?_) | go_size)))) hla hlb hoa.len hob.len Hba.out Hbb.out).mono ?_); rintro e w1 ⟨v1, rfl, hr1, hb1⟩))
  obtain ⟨ch1, fh1⟩ := bcell hb1
  have z1 := hb1.size
  simp only [World.size_alloc] at z1
  have l2 : w.heap.size + 1 + 1 < w1.heap.size := by omega
  have Hr1 := Lib.hid hr1.own.rd
  clear hr1
  go_wp2_with fail
  (go_at_call 83; ((with_reducible refine (over_impl _ (mulZ a b) m _ Hr1.out (by rw [mulZ_length]; omega) Hbd.out (by omega) (by omega)).mono ?_); rintro e w2 ⟨v2, rfl, ho2, hb2⟩))
  obtain ⟨ch2, fh2⟩ := bcell hb2
  have z2 := hb2.size
  have r2 : w.heap.size + 1 + 1 < w2.heap.size := by omega
  obtain ⟨ao2, c2, rfl⟩ := ho2.rd.shape
  have Ho2 := Lib.hid ho2
  clear ho2
  go_wp2_with fail
  (try simp only [Exit.inBlock, Exit.then]); refine bodyPost_ret (by simp [results, Try.results82, go_sem, *]; try rfl) rfl ?_
  exact ⟨_, rfl, OwI.mono (B := w1.heap.size) (OwI.setCell Ho2.out (by show w.heap.size + 1 + 1 < _; omega) _) (by omega), by (repeat' (first | (with_reducible exact Below.refl _ _) | (with_reducible assumption) | (with_reducible refine Below.alloc ?_ ?_ _) | (with_reducible refine Below.setCell ?_ ?_ _) | (with_reducible refine Below.drew ?_) | (with_reducible refine Below.via (by assumption) ?_ ?_) | go_size))⟩

/-! Powers. -/
def remF (m : Int) (by' x : List Int) : List Int := (divF x by' m).2
def powZ (m : Int) (by' : List Int) (p : Nat) (out sq : List Int) : List Int :=
  if p = 0 then out else powZ m by' (p / 2) (if p % 2 = 1 then remF m by' (mulF m out sq) else out) (remF m by' (mulF m sq sq))
  termination_by p
  decreasing_by omega
theorem powZ_zero (m : Int) (by' out sq : List Int) : powZ m by' 0 out sq = out := by rw [powZ, if_pos rfl]
theorem powZ_odd {m : Int} {by' out sq : List Int} {p : Nat} (h : p % 2 = 1) : powZ m by' p out sq = powZ m by' (p / 2) (remF m by' (mulF m out sq)) (remF m by' (mulF m sq sq)) := by
  rw [powZ, if_neg (by omega), if_pos h]
theorem powZ_even {m : Int} {by' out sq : List Int} {p : Nat} (h0 : p ≠ 0) (h : p % 2 ≠ 1) : powZ m by' p out sq = powZ m by' (p / 2) out (remF m by' (mulF m sq sq)) := by
  rw [powZ, if_neg h0, if_neg h]
/-- A list over a prime of at most 17 terms. -/
def Ov17 (m : Int) (zs : List Int) : Prop := Ovr m zs ∧ zs.length ≤ 17
theorem Ov17.ovr {m : Int} {zs : List Int} (h : Ov17 m zs) : Ovr m zs := h.1
theorem Ov17.len {m : Int} {zs : List Int} (h : Ov17 m zs) : zs.length ≤ 17 := h.2
theorem rem17 {m : Int} {by' x : List Int} (hm : primeB m = true) (hx : Ovr m x) (hb : Ov17 m by') (hz : zeroB by' = false) : Ov17 m (remF m by' x) := by
  have h := divF_ovr hm hx hb.ovr hz
  have := hb.len
  exact ⟨h.2.1, by unfold remF; rcases h.2.2.1 with h1 | h1 <;> omega⟩
theorem mul17 {m : Int} {a b : List Int} (hm : primeB m = true) (ha : Ov17 m a) (hb : Ov17 m b) : Ovr m (mulF m a b) := by
  have := ha.len
  have := hb.len
  exact mulF_ovr (by have := primeB_bd hm; omega) ha.ovr hb.ovr (by omega)
theorem long_zero {zs : List Int} (h : 2 ≤ zs.length) : zeroB zs = false := by
  match zs, h with
  | _ :: _ :: _, _ => simp [zeroB]
theorem one17 {m : Int} (hm : primeB m = true) : Ov17 m [1] := by
  have := primeB_bd hm
  exact ⟨⟨fun i => by cases i <;> simp <;> omega, ⟨by simp, .inl (by simp)⟩, by simp⟩, by simp⟩
theorem powZ17 {m : Int} {by' : List Int} (hm : primeB m = true) (hb : Ov17 m by') (hz : zeroB by' = false) : ∀ (n p : Nat) (out sq : List Int), p ≤ n → Ov17 m out → Ov17 m sq → Ov17 m (powZ m by' p out sq)
  | 0, p, out, sq, h, ho, _ => by obtain rfl : p = 0 := by omega
                                  rw [powZ_zero]; exact ho
  | n + 1, p, out, sq, h, ho, hs => by
    have h2 := rem17 hm (mul17 hm hs hs) hb hz
    by_cases h0 : p = 0
    · subst h0; rw [powZ_zero]; exact ho
    by_cases h1 : p % 2 = 1
    · rw [powZ_odd h1]
      exact powZ17 hm hb hz n _ _ _ (by omega) (rem17 hm (mul17 hm ho hs) hb hz) h2
    · rw [powZ_even h0 h1]
      exact powZ17 hm hb hz n _ _ _ (by omega) ho h2
/-- What both say. -/
def powOk (base : List Int) (p : Int) (by' : List Int) (m : Int) : Bool := overB m base && overB m by' && decide (2 ≤ by'.length) && inB 0 p 1000000
def powR (base : List Int) (p : Int) (by' : List Int) (m : Int) : List Int × Bool := if powOk base p by' m then (powZ m by' p.toNat [1] (remF m by' base), true) else ([], false)
theorem powOk_facts {base : List Int} {p : Int} {by' : List Int} {m : Int} (h : powOk base p by' m = true) : primeB m = true ∧ Ov17 m base ∧ Ov17 m by' ∧ 2 ≤ by'.length ∧ 0 ≤ p ∧ p ≤ 1000000 := by
  simp only [powOk, Bool.and_eq_true, decide_eq_true_eq] at h
  obtain ⟨⟨⟨h1, h2⟩, h3⟩, h4⟩ := h
  obtain ⟨hm, o1, l1⟩ := overB_ovr h1
  obtain ⟨_, o2, l2⟩ := overB_ovr h2
  have := inB_true.1 h4
  exact ⟨hm, ⟨o1, l1⟩, ⟨o2, l2⟩, h3, this.1, this.2⟩
theorem powR_17 {base : List Int} {p : Int} {by' : List Int} {m : Int} (h : powOk base p by' m = true) : Ov17 m (powZ m by' p.toNat [1] (remF m by' base)) := by
  obtain ⟨hm, h1, h2, h3, _, _⟩ := powOk_facts h
  exact powZ17 hm h2 (long_zero h3) _ _ _ _ (Nat.le_refl _) (one17 hm) (rem17 hm h1.ovr h2 (long_zero h3))
theorem powR_give {base : List Int} {p : Int} {by' : List Int} {m : Int} (h : powOk base p by' m = true) : giveF (trimS (powZ m by' p.toNat [1] (remF m by' base))) = (powZ m by' p.toNat [1] (remF m by' base), true) := by
  have h1 := powR_17 h
  have hm := primeB_bd (powOk_facts h).1
  rw [h1.ovr.trd.trimS]
  exact giveF_valid (ovr_valid h1.ovr (by omega) h1.len)
theorem powR_len (base : List Int) (p : Int) (by' : List Int) (m : Int) : (powR base p by' m).1.length ≤ 1048576 := by
  unfold powR
  split
  · rename_i h
    have := (powR_17 h).len
    simp only
    omega
  · simp

end Go.Proofs.Ytlnjkjogedbhfaa
