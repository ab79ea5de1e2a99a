/- Near each root of up to four: the scaled form and its table. Conditions: roots as they are drawn. -/
import Derived.Test.YtfnhddaofllniaaGreatV19
namespace Go.Proofs.YtfnhddaofllniaaGreat
open Go
set_option linter.unusedSimpArgs false
set_option linter.unusedVariables false

def EvN (n : Nat) : Rat := if n = 1 then 909 / 1000000000 else if n = 2 then 4573 / 500000000 else if n = 3 then 11287 / 200000000 else 136421 / 500000000
def EsN (n : Nat) : Rat := if n = 1 then 0 else if n = 2 then 31 / 10000000 else if n = 3 then 27977 / 1000000000 else 158327 / 1000000000
theorem eEv1 : EvN 1 = 909 / 1000000000 := by decide +kernel
theorem eEs1 : EsN 1 = 0 := by decide +kernel
theorem eEv2 : EvN 2 = 4573 / 500000000 := by decide +kernel
theorem eEs2 : EsN 2 = 31 / 10000000 := by decide +kernel
theorem eEv3 : EvN 3 = 11287 / 200000000 := by decide +kernel
theorem eEs3 : EsN 3 = 27977 / 1000000000 := by decide +kernel
theorem eEv4 : EvN 4 = 136421 / 500000000 := by decide +kernel
theorem eEs4 : EsN 4 = 158327 / 1000000000 := by decide +kernel
/-- The local form, its bounds, its table. -/
def LocAt (X : Nat → Int × Int) (n i : Nat) : Prop := ∃ (M IM c2 c3 c4 : Q2) (c f g mu Mu be ep : Rat) (d r t nn q : List Rat),
  Cof M IM (IM * IM * c2) (IM * (IM * IM) * c3) (IM * IM * (IM * IM) * c4) c f g mu Mu be ∧ Tb c f g mu Mu (EvN n) (EsN n) ep d r t nn q ∧ N (rq X i) + 3 / 2 * (be * gd d 12) ≤ 25 / 8 ∧ (∀ j, j < 12 → gd d j ≤ gd d 12) ∧
  ∀ z, (VV (gq X z) n).1 = lP M c2 c3 c4 (z - rq X i) ∧ (VV (gq X z) n).2.1 = lS M c2 c3 c4 (z - rq X i)
theorem VV_congr {d d' : Nat → Q2} {n : Nat} (h : ∀ j, j < n → d j = d' j) : VV d n = VV d' n := by
  induction n with
  | zero => rfl
  | succ n ih =>
    have e := ih (fun j hj => h j (by omega))
    unfold VV
    rw [e, h n (by omega)]
theorem gq_at (X : Nat → Int × Int) (z : Q2) (i j : Nat) : gq X z j = (z - rq X i) + aq X i j := q2e (by simp [gq, aq]; grind) (by simp [gq, aq]; grind)
theorem zero_add2 (x : Q2) : zero2 + x = x := q2e (by simp [zero2]; try grind) (by simp [zero2]; try grind)
theorem rq_norm {X : Nat → Int × Int} {i b : Nat} (h : nz (X i) ≤ b) : N (rq X i) ≤ (b : Rat) * (1 / 8) := by
  have e := nS_pure (sx := (X i).1) (sy := (X i).2) (N1 := nz (X i)) (p2 (-3)) (Rat.le_of_lt (p2_pos _)) (by unfold nz; omega)
  have e2 : N (rq X i) = ((nz (X i) : Nat) : Rat) * p2 (-3) := e
  rw [e2, p2m3]
  exact Rat.mul_le_mul_of_nonneg_right (by exact_mod_cast h) (by decide +kernel)
section
variable {ls : List C2} {X : Nat → Int × Int}
theorem loc10 (h : DX ls X) (h4 : ls.length ≤ 4) (hn : ls.length = 1) : LocAt X 1 0 := by
  have nbd := rq_norm (nb_ok h h4 (j := 0) (by omega))
  have nbe : ((nb 0 : Nat) : Rat) = 20 := by decide +kernel
  rw [nbe] at nbd
  have z0 := aq_self X 0
  have K := cof1
  refine ⟨_, _, _, _, _, _, _, _, _, _, _, _, T1d, T1r, T1t, T1n, T1q, K, by rw [eEv1, eEs1]; exact T1_ok, ?_, by decide +kernel, fun z => ?_⟩
  · refine Rat.le_trans (Rat.add_le_add_right.2 nbd) (by decide +kernel)
  · have e : gq X z 0 = z - rq X 0 := rfl
    refine ⟨?_, ?_⟩
    · show gq X z 0 * one2 = _
      rw [e]
      exact q2e (by simp [lP, one2, zero2]; try grind) (by simp [lP, one2, zero2]; try grind)
    · show one2 + gq X z 0 * zero2 = _
      exact q2e (by simp [lS, one2, zero2]; try grind) (by simp [lS, one2, zero2]; try grind)
theorem loc20 (h : DX ls X) (h4 : ls.length ≤ 4) (hn : ls.length = 2) : LocAt X 2 0 := by
  have nbd := rq_norm (nb_ok h h4 (j := 0) (by omega))
  have nbe : ((nb 0 : Nat) : Rat) = 20 := by decide +kernel
  rw [nbe] at nbd
  have i1 := h.inv (i := 0) (j := 1) (k := 1) (by omega) (by omega) (by omega) (by omega)
  have l1 := h.lb (i := 0) (j := 1) (k := 1) (by omega) (by omega) (by omega) (by omega) (r := (1 / 2)) (by decide +kernel) (by decide +kernel)
  have u1 := h.ab (i := 0) (j := 1) (k := 1) (by omega) (by omega) (by omega) (r := (5 / 2)) (by decide +kernel) (by decide +kernel)
  have v1 : Ab (inv2 (aq X 0 1)) 2 := inv_ab i1 l1 (by decide +kernel) (by decide +kernel) (by decide +kernel)
  have z0 := aq_self X 0
  have hM : (aq X 0 0) + (aq X 0 1) = (aq X 0 1) := by rw [z0]; exact q2e (by simp [zero2]; try grind) (by simp [zero2]; try grind)
  have K := cof2' i1 hM v1 l1 u1
  refine ⟨_, _, _, _, _, _, _, _, _, _, _, _, T2d, T2r, T2t, T2n, T2q, K, by rw [eEv2, eEs2]; exact T2_ok, ?_, by decide +kernel, fun z => ?_⟩
  · refine Rat.le_trans (Rat.add_le_add_right.2 nbd) (by decide +kernel)
  · have e : VV (gq X z) 2 = VV (fun j => (z - rq X 0) + (if j = 0 then aq X 0 0 else aq X 0 1)) 2 := VV_congr (fun j hj => by
      rw [gq_at X z 0 j]
      rcases (by omega : j = 0 ∨ j = 1) with rfl | rfl <;> rfl)
    obtain ⟨p1, p2'⟩ := pr2 (z - rq X 0) (aq X 0 0) (aq X 0 1)
    have pz : aq X 0 0 * aq X 0 1 = zero2 := by rw [z0]; exact q2e (by simp [zero2]; try grind) (by simp [zero2]; try grind)
    rw [pz, zero_add2] at p1
    rw [e]
    exact ⟨p1, p2'⟩
theorem loc21 (h : DX ls X) (h4 : ls.length ≤ 4) (hn : ls.length = 2) : LocAt X 2 1 := by
  have nbd := rq_norm (nb_ok h h4 (j := 1) (by omega))
  have nbe : ((nb 1 : Nat) : Rat) = 12 := by decide +kernel
  rw [nbe] at nbd
  have i0 := h.inv (i := 1) (j := 0) (k := 1) (by omega) (by omega) (by omega) (by omega)
  have l0 := h.lb (i := 1) (j := 0) (k := 1) (by omega) (by omega) (by omega) (by omega) (r := (1 / 2)) (by decide +kernel) (by decide +kernel)
  have u0 := h.ab (i := 1) (j := 0) (k := 1) (by omega) (by omega) (by omega) (r := (5 / 2)) (by decide +kernel) (by decide +kernel)
  have v0 : Ab (inv2 (aq X 1 0)) 2 := inv_ab i0 l0 (by decide +kernel) (by decide +kernel) (by decide +kernel)
  have z0 := aq_self X 1
  have hM : (aq X 1 0) + (aq X 1 1) = (aq X 1 0) := by rw [z0]; exact q2e (by simp [zero2]; try grind) (by simp [zero2]; try grind)
  have K := cof2' i0 hM v0 l0 u0
  refine ⟨_, _, _, _, _, _, _, _, _, _, _, _, T2d, T2r, T2t, T2n, T2q, K, by rw [eEv2, eEs2]; exact T2_ok, ?_, by decide +kernel, fun z => ?_⟩
  · refine Rat.le_trans (Rat.add_le_add_right.2 nbd) (by decide +kernel)
  · have e : VV (gq X z) 2 = VV (fun j => (z - rq X 1) + (if j = 0 then aq X 1 0 else aq X 1 1)) 2 := VV_congr (fun j hj => by
      rw [gq_at X z 1 j]
      rcases (by omega : j = 0 ∨ j = 1) with rfl | rfl <;> rfl)
    obtain ⟨p1, p2'⟩ := pr2 (z - rq X 1) (aq X 1 0) (aq X 1 1)
    have pz : aq X 1 0 * aq X 1 1 = zero2 := by rw [z0]; exact q2e (by simp [zero2]; try grind) (by simp [zero2]; try grind)
    rw [pz, zero_add2] at p1
    rw [e]
    exact ⟨p1, p2'⟩
theorem loc30 (h : DX ls X) (h4 : ls.length ≤ 4) (hn : ls.length = 3) : LocAt X 3 0 := by
  have nbd := rq_norm (nb_ok h h4 (j := 0) (by omega))
  have nbe : ((nb 0 : Nat) : Rat) = 20 := by decide +kernel
  rw [nbe] at nbd
  have i1 := h.inv (i := 0) (j := 1) (k := 1) (by omega) (by omega) (by omega) (by omega)
  have l1 := h.lb (i := 0) (j := 1) (k := 1) (by omega) (by omega) (by omega) (by omega) (r := (1 / 2)) (by decide +kernel) (by decide +kernel)
  have u1 := h.ab (i := 0) (j := 1) (k := 1) (by omega) (by omega) (by omega) (r := (5 / 2)) (by decide +kernel) (by decide +kernel)
  have v1 : Ab (inv2 (aq X 0 1)) 2 := inv_ab i1 l1 (by decide +kernel) (by decide +kernel) (by decide +kernel)
  have i2 := h.inv (i := 0) (j := 2) (k := 2) (by omega) (by omega) (by omega) (by omega)
  have l2 := h.lb (i := 0) (j := 2) (k := 2) (by omega) (by omega) (by omega) (by omega) (r := (3 / 2)) (by decide +kernel) (by decide +kernel)
  have u2 := h.ab (i := 0) (j := 2) (k := 2) (by omega) (by omega) (by omega) (r := (3202 / 1000)) (by decide +kernel) (by decide +kernel)
  have v2 : Ab (inv2 (aq X 0 2)) (2 / 3) := inv_ab i2 l2 (by decide +kernel) (by decide +kernel) (by decide +kernel)
  have z0 := aq_self X 0
  have hM : (aq X 0 0) * (aq X 0 1) + (aq X 0 0) * (aq X 0 2) + (aq X 0 1) * (aq X 0 2) = (aq X 0 1) * (aq X 0 2) := by rw [z0]; exact q2e (by simp [zero2]; try grind) (by simp [zero2]; try grind)
  have h2 : (aq X 0 0) + (aq X 0 1) + (aq X 0 2) = (aq X 0 1) + (aq X 0 2) := by rw [z0]; exact q2e (by simp [zero2]; try grind) (by simp [zero2]; try grind)
  have K := cof3e i1 i2 hM h2 v1 v2 l1 l2 u1 u2
  refine ⟨_, _, _, _, _, _, _, _, _, _, _, _, T3ed, T3er, T3et, T3en, T3eq, K, by rw [eEv3, eEs3]; exact T3e_ok, ?_, by decide +kernel, fun z => ?_⟩
  · refine Rat.le_trans (Rat.add_le_add_right.2 nbd) (by decide +kernel)
  · have e : VV (gq X z) 3 = VV (fun j => (z - rq X 0) + (if j = 0 then aq X 0 0 else if j = 1 then aq X 0 1 else aq X 0 2)) 3 := VV_congr (fun j hj => by
      rw [gq_at X z 0 j]
      rcases (by omega : j = 0 ∨ j = 1 ∨ j = 2) with rfl | rfl | rfl <;> rfl)
    obtain ⟨p1, p2'⟩ := pr3 (z - rq X 0) (aq X 0 0) (aq X 0 1) (aq X 0 2)
    have pz : aq X 0 0 * (aq X 0 1 * aq X 0 2) = zero2 := by rw [z0]; exact q2e (by simp [zero2]; try grind) (by simp [zero2]; try grind)
    rw [pz, zero_add2] at p1
    rw [e]
    exact ⟨p1, p2'⟩
theorem loc31 (h : DX ls X) (h4 : ls.length ≤ 4) (hn : ls.length = 3) : LocAt X 3 1 := by
  have nbd := rq_norm (nb_ok h h4 (j := 1) (by omega))
  have nbe : ((nb 1 : Nat) : Rat) = 12 := by decide +kernel
  rw [nbe] at nbd
  have i0 := h.inv (i := 1) (j := 0) (k := 1) (by omega) (by omega) (by omega) (by omega)
  have l0 := h.lb (i := 1) (j := 0) (k := 1) (by omega) (by omega) (by omega) (by omega) (r := (1 / 2)) (by decide +kernel) (by decide +kernel)
  have u0 := h.ab (i := 1) (j := 0) (k := 1) (by omega) (by omega) (by omega) (r := (5 / 2)) (by decide +kernel) (by decide +kernel)
  have v0 : Ab (inv2 (aq X 1 0)) 2 := inv_ab i0 l0 (by decide +kernel) (by decide +kernel) (by decide +kernel)
  have i2 := h.inv (i := 1) (j := 2) (k := 1) (by omega) (by omega) (by omega) (by omega)
  have l2 := h.lb (i := 1) (j := 2) (k := 1) (by omega) (by omega) (by omega) (by omega) (r := (1 / 2)) (by decide +kernel) (by decide +kernel)
  have u2 := h.ab (i := 1) (j := 2) (k := 1) (by omega) (by omega) (by omega) (r := (5 / 2)) (by decide +kernel) (by decide +kernel)
  have v2 : Ab (inv2 (aq X 1 2)) 2 := inv_ab i2 l2 (by decide +kernel) (by decide +kernel) (by decide +kernel)
  obtain ⟨t1, t2, t3⟩ := h.two (i := 1) (j := 0) rfl (by omega)
  have z0 := aq_self X 1
  have hM : (aq X 1 0) * (aq X 1 1) + (aq X 1 0) * (aq X 1 2) + (aq X 1 1) * (aq X 1 2) = (aq X 1 0) * (aq X 1 2) := by rw [z0]; exact q2e (by simp [zero2]; try grind) (by simp [zero2]; try grind)
  have h2 : (aq X 1 0) + (aq X 1 1) + (aq X 1 2) = (aq X 1 0) + (aq X 1 2) := by rw [z0]; exact q2e (by simp [zero2]; try grind) (by simp [zero2]; try grind)
  have K := cof3m i0 i2 hM h2 t2 t3 t1 u0 u2
  refine ⟨_, _, _, _, _, _, _, _, _, _, _, _, T3md, T3mr, T3mt, T3mn, T3mq, K, by rw [eEv3, eEs3]; exact T3m_ok, ?_, by decide +kernel, fun z => ?_⟩
  · refine Rat.le_trans (Rat.add_le_add_right.2 nbd) (by decide +kernel)
  · have e : VV (gq X z) 3 = VV (fun j => (z - rq X 1) + (if j = 0 then aq X 1 0 else if j = 1 then aq X 1 1 else aq X 1 2)) 3 := VV_congr (fun j hj => by
      rw [gq_at X z 1 j]
      rcases (by omega : j = 0 ∨ j = 1 ∨ j = 2) with rfl | rfl | rfl <;> rfl)
    obtain ⟨p1, p2'⟩ := pr3 (z - rq X 1) (aq X 1 0) (aq X 1 1) (aq X 1 2)
    have pz : aq X 1 0 * (aq X 1 1 * aq X 1 2) = zero2 := by rw [z0]; exact q2e (by simp [zero2]; try grind) (by simp [zero2]; try grind)
    rw [pz, zero_add2] at p1
    rw [e]
    exact ⟨p1, p2'⟩
theorem loc32 (h : DX ls X) (h4 : ls.length ≤ 4) (hn : ls.length = 3) : LocAt X 3 2 := by
  have nbd := rq_norm (nb_ok h h4 (j := 2) (by omega))
  have nbe : ((nb 2 : Nat) : Rat) = 16 := by decide +kernel
  rw [nbe] at nbd
  have i0 := h.inv (i := 2) (j := 0) (k := 2) (by omega) (by omega) (by omega) (by omega)
  have l0 := h.lb (i := 2) (j := 0) (k := 2) (by omega) (by omega) (by omega) (by omega) (r := (3 / 2)) (by decide +kernel) (by decide +kernel)
  have u0 := h.ab (i := 2) (j := 0) (k := 2) (by omega) (by omega) (by omega) (r := (3202 / 1000)) (by decide +kernel) (by decide +kernel)
  have v0 : Ab (inv2 (aq X 2 0)) (2 / 3) := inv_ab i0 l0 (by decide +kernel) (by decide +kernel) (by decide +kernel)
  have i1 := h.inv (i := 2) (j := 1) (k := 1) (by omega) (by omega) (by omega) (by omega)
  have l1 := h.lb (i := 2) (j := 1) (k := 1) (by omega) (by omega) (by omega) (by omega) (r := (1 / 2)) (by decide +kernel) (by decide +kernel)
  have u1 := h.ab (i := 2) (j := 1) (k := 1) (by omega) (by omega) (by omega) (r := (5 / 2)) (by decide +kernel) (by decide +kernel)
  have v1 : Ab (inv2 (aq X 2 1)) 2 := inv_ab i1 l1 (by decide +kernel) (by decide +kernel) (by decide +kernel)
  have z0 := aq_self X 2
  have hM : (aq X 2 0) * (aq X 2 1) + (aq X 2 0) * (aq X 2 2) + (aq X 2 1) * (aq X 2 2) = (aq X 2 1) * (aq X 2 0) := by rw [z0]; exact q2e (by simp [zero2]; try grind) (by simp [zero2]; try grind)
  have h2 : (aq X 2 0) + (aq X 2 1) + (aq X 2 2) = (aq X 2 1) + (aq X 2 0) := by rw [z0]; exact q2e (by simp [zero2]; try grind) (by simp [zero2]; try grind)
  have K := cof3e i1 i0 hM h2 v1 v0 l1 l0 u1 u0
  refine ⟨_, _, _, _, _, _, _, _, _, _, _, _, T3ed, T3er, T3et, T3en, T3eq, K, by rw [eEv3, eEs3]; exact T3e_ok, ?_, by decide +kernel, fun z => ?_⟩
  · refine Rat.le_trans (Rat.add_le_add_right.2 nbd) (by decide +kernel)
  · have e : VV (gq X z) 3 = VV (fun j => (z - rq X 2) + (if j = 0 then aq X 2 0 else if j = 1 then aq X 2 1 else aq X 2 2)) 3 := VV_congr (fun j hj => by
      rw [gq_at X z 2 j]
      rcases (by omega : j = 0 ∨ j = 1 ∨ j = 2) with rfl | rfl | rfl <;> rfl)
    obtain ⟨p1, p2'⟩ := pr3 (z - rq X 2) (aq X 2 0) (aq X 2 1) (aq X 2 2)
    have pz : aq X 2 0 * (aq X 2 1 * aq X 2 2) = zero2 := by rw [z0]; exact q2e (by simp [zero2]; try grind) (by simp [zero2]; try grind)
    rw [pz, zero_add2] at p1
    rw [e]
    exact ⟨p1, p2'⟩
theorem loc40 (h : DX ls X) (h4 : ls.length ≤ 4) (hn : ls.length = 4) : LocAt X 4 0 := by
  have nbd := rq_norm (nb_ok h h4 (j := 0) (by omega))
  have nbe : ((nb 0 : Nat) : Rat) = 20 := by decide +kernel
  rw [nbe] at nbd
  have i1 := h.inv (i := 0) (j := 1) (k := 1) (by omega) (by omega) (by omega) (by omega)
  have l1 := h.lb (i := 0) (j := 1) (k := 1) (by omega) (by omega) (by omega) (by omega) (r := (1 / 2)) (by decide +kernel) (by decide +kernel)
  have u1 := h.ab (i := 0) (j := 1) (k := 1) (by omega) (by omega) (by omega) (r := (5 / 2)) (by decide +kernel) (by decide +kernel)
  have v1 : Ab (inv2 (aq X 0 1)) 2 := inv_ab i1 l1 (by decide +kernel) (by decide +kernel) (by decide +kernel)
  have i2 := h.inv (i := 0) (j := 2) (k := 2) (by omega) (by omega) (by omega) (by omega)
  have l2 := h.lb (i := 0) (j := 2) (k := 2) (by omega) (by omega) (by omega) (by omega) (r := (3 / 2)) (by decide +kernel) (by decide +kernel)
  have u2 := h.ab (i := 0) (j := 2) (k := 2) (by omega) (by omega) (by omega) (r := (3202 / 1000)) (by decide +kernel) (by decide +kernel)
  have v2 : Ab (inv2 (aq X 0 2)) (2 / 3) := inv_ab i2 l2 (by decide +kernel) (by decide +kernel) (by decide +kernel)
  have i3 := h.inv (i := 0) (j := 3) (k := 3) (by omega) (by omega) (by omega) (by omega)
  have l3 := h.lb (i := 0) (j := 3) (k := 3) (by omega) (by omega) (by omega) (by omega) (r := (5 / 2)) (by decide +kernel) (by decide +kernel)
  have u3 := h.ab (i := 0) (j := 3) (k := 3) (by omega) (by omega) (by omega) (r := (4032 / 1000)) (by decide +kernel) (by decide +kernel)
  have v3 : Ab (inv2 (aq X 0 3)) (2 / 5) := inv_ab i3 l3 (by decide +kernel) (by decide +kernel) (by decide +kernel)
  have z0 := aq_self X 0
  have hM : (aq X 0 0) * (aq X 0 1) * (aq X 0 2) + (aq X 0 0) * (aq X 0 1) * (aq X 0 3) + (aq X 0 0) * (aq X 0 2) * (aq X 0 3) + (aq X 0 1) * (aq X 0 2) * (aq X 0 3) = (aq X 0 1) * ((aq X 0 2) * (aq X 0 3)) := by rw [z0]; exact q2e (by simp [zero2]; try grind) (by simp [zero2]; try grind)
  have h2 : (aq X 0 0) * (aq X 0 1) + (aq X 0 0) * (aq X 0 2) + (aq X 0 0) * (aq X 0 3) + (aq X 0 1) * (aq X 0 2) + (aq X 0 1) * (aq X 0 3) + (aq X 0 2) * (aq X 0 3) = (aq X 0 1) * (aq X 0 2) + (aq X 0 1) * (aq X 0 3) + (aq X 0 2) * (aq X 0 3) := by rw [z0]; exact q2e (by simp [zero2]; try grind) (by simp [zero2]; try grind)
  have h3 : (aq X 0 0) + (aq X 0 1) + (aq X 0 2) + (aq X 0 3) = (aq X 0 1) + (aq X 0 2) + (aq X 0 3) := by rw [z0]; exact q2e (by simp [zero2]; try grind) (by simp [zero2]; try grind)
  have K := cof4e i1 i2 i3 hM h2 h3 v1 v2 v3 l1 l2 l3 u1 u2 u3
  refine ⟨_, _, _, _, _, _, _, _, _, _, _, _, T4ed, T4er, T4et, T4en, T4eq, K, by rw [eEv4, eEs4]; exact T4e_ok, ?_, by decide +kernel, fun z => ?_⟩
  · refine Rat.le_trans (Rat.add_le_add_right.2 nbd) (by decide +kernel)
  · have e : VV (gq X z) 4 = VV (fun j => (z - rq X 0) + (if j = 0 then aq X 0 0 else if j = 1 then aq X 0 1 else if j = 2 then aq X 0 2 else aq X 0 3)) 4 := VV_congr (fun j hj => by
      rw [gq_at X z 0 j]
      rcases (by omega : j = 0 ∨ j = 1 ∨ j = 2 ∨ j = 3) with rfl | rfl | rfl | rfl <;> rfl)
    obtain ⟨p1, p2'⟩ := pr4 (z - rq X 0) (aq X 0 0) (aq X 0 1) (aq X 0 2) (aq X 0 3)
    have pz : aq X 0 0 * aq X 0 1 * (aq X 0 2 * aq X 0 3) = zero2 := by rw [z0]; exact q2e (by simp [zero2]; try grind) (by simp [zero2]; try grind)
    rw [pz, zero_add2] at p1
    rw [e]
    exact ⟨p1, p2'⟩
theorem loc41 (h : DX ls X) (h4 : ls.length ≤ 4) (hn : ls.length = 4) : LocAt X 4 1 := by
  have nbd := rq_norm (nb_ok h h4 (j := 1) (by omega))
  have nbe : ((nb 1 : Nat) : Rat) = 12 := by decide +kernel
  rw [nbe] at nbd
  have i0 := h.inv (i := 1) (j := 0) (k := 1) (by omega) (by omega) (by omega) (by omega)
  have l0 := h.lb (i := 1) (j := 0) (k := 1) (by omega) (by omega) (by omega) (by omega) (r := (1 / 2)) (by decide +kernel) (by decide +kernel)
  have u0 := h.ab (i := 1) (j := 0) (k := 1) (by omega) (by omega) (by omega) (r := (5 / 2)) (by decide +kernel) (by decide +kernel)
  have v0 : Ab (inv2 (aq X 1 0)) 2 := inv_ab i0 l0 (by decide +kernel) (by decide +kernel) (by decide +kernel)
  have i2 := h.inv (i := 1) (j := 2) (k := 1) (by omega) (by omega) (by omega) (by omega)
  have l2 := h.lb (i := 1) (j := 2) (k := 1) (by omega) (by omega) (by omega) (by omega) (r := (1 / 2)) (by decide +kernel) (by decide +kernel)
  have u2 := h.ab (i := 1) (j := 2) (k := 1) (by omega) (by omega) (by omega) (r := (5 / 2)) (by decide +kernel) (by decide +kernel)
  have v2 : Ab (inv2 (aq X 1 2)) 2 := inv_ab i2 l2 (by decide +kernel) (by decide +kernel) (by decide +kernel)
  have i3 := h.inv (i := 1) (j := 3) (k := 2) (by omega) (by omega) (by omega) (by omega)
  have l3 := h.lb (i := 1) (j := 3) (k := 2) (by omega) (by omega) (by omega) (by omega) (r := (3 / 2)) (by decide +kernel) (by decide +kernel)
  have u3 := h.ab (i := 1) (j := 3) (k := 2) (by omega) (by omega) (by omega) (r := (3202 / 1000)) (by decide +kernel) (by decide +kernel)
  have v3 : Ab (inv2 (aq X 1 3)) (2 / 3) := inv_ab i3 l3 (by decide +kernel) (by decide +kernel) (by decide +kernel)
  obtain ⟨t1, t2, t3⟩ := h.two (i := 1) (j := 0) rfl (by omega)
  have z0 := aq_self X 1
  have hM : (aq X 1 0) * (aq X 1 1) * (aq X 1 2) + (aq X 1 0) * (aq X 1 1) * (aq X 1 3) + (aq X 1 0) * (aq X 1 2) * (aq X 1 3) + (aq X 1 1) * (aq X 1 2) * (aq X 1 3) = (aq X 1 0) * ((aq X 1 2) * (aq X 1 3)) := by rw [z0]; exact q2e (by simp [zero2]; try grind) (by simp [zero2]; try grind)
  have h2 : (aq X 1 0) * (aq X 1 1) + (aq X 1 0) * (aq X 1 2) + (aq X 1 0) * (aq X 1 3) + (aq X 1 1) * (aq X 1 2) + (aq X 1 1) * (aq X 1 3) + (aq X 1 2) * (aq X 1 3) = (aq X 1 0) * (aq X 1 2) + (aq X 1 0) * (aq X 1 3) + (aq X 1 2) * (aq X 1 3) := by rw [z0]; exact q2e (by simp [zero2]; try grind) (by simp [zero2]; try grind)
  have h3 : (aq X 1 0) + (aq X 1 1) + (aq X 1 2) + (aq X 1 3) = (aq X 1 0) + (aq X 1 2) + (aq X 1 3) := by rw [z0]; exact q2e (by simp [zero2]; try grind) (by simp [zero2]; try grind)
  have K := cof4m i0 i2 i3 hM h2 h3 t2 t3 v3 t1 l3 u0 u2 u3
  refine ⟨_, _, _, _, _, _, _, _, _, _, _, _, T4md, T4mr, T4mt, T4mn, T4mq, K, by rw [eEv4, eEs4]; exact T4m_ok, ?_, by decide +kernel, fun z => ?_⟩
  · refine Rat.le_trans (Rat.add_le_add_right.2 nbd) (by decide +kernel)
  · have e : VV (gq X z) 4 = VV (fun j => (z - rq X 1) + (if j = 0 then aq X 1 0 else if j = 1 then aq X 1 1 else if j = 2 then aq X 1 2 else aq X 1 3)) 4 := VV_congr (fun j hj => by
      rw [gq_at X z 1 j]
      rcases (by omega : j = 0 ∨ j = 1 ∨ j = 2 ∨ j = 3) with rfl | rfl | rfl | rfl <;> rfl)
    obtain ⟨p1, p2'⟩ := pr4 (z - rq X 1) (aq X 1 0) (aq X 1 1) (aq X 1 2) (aq X 1 3)
    have pz : aq X 1 0 * aq X 1 1 * (aq X 1 2 * aq X 1 3) = zero2 := by rw [z0]; exact q2e (by simp [zero2]; try grind) (by simp [zero2]; try grind)
    rw [pz, zero_add2] at p1
    rw [e]
    exact ⟨p1, p2'⟩
theorem loc42 (h : DX ls X) (h4 : ls.length ≤ 4) (hn : ls.length = 4) : LocAt X 4 2 := by
  have nbd := rq_norm (nb_ok h h4 (j := 2) (by omega))
  have nbe : ((nb 2 : Nat) : Rat) = 16 := by decide +kernel
  rw [nbe] at nbd
  have i0 := h.inv (i := 2) (j := 0) (k := 2) (by omega) (by omega) (by omega) (by omega)
  have l0 := h.lb (i := 2) (j := 0) (k := 2) (by omega) (by omega) (by omega) (by omega) (r := (3 / 2)) (by decide +kernel) (by decide +kernel)
  have u0 := h.ab (i := 2) (j := 0) (k := 2) (by omega) (by omega) (by omega) (r := (3202 / 1000)) (by decide +kernel) (by decide +kernel)
  have v0 : Ab (inv2 (aq X 2 0)) (2 / 3) := inv_ab i0 l0 (by decide +kernel) (by decide +kernel) (by decide +kernel)
  have i1 := h.inv (i := 2) (j := 1) (k := 1) (by omega) (by omega) (by omega) (by omega)
  have l1 := h.lb (i := 2) (j := 1) (k := 1) (by omega) (by omega) (by omega) (by omega) (r := (1 / 2)) (by decide +kernel) (by decide +kernel)
  have u1 := h.ab (i := 2) (j := 1) (k := 1) (by omega) (by omega) (by omega) (r := (5 / 2)) (by decide +kernel) (by decide +kernel)
  have v1 : Ab (inv2 (aq X 2 1)) 2 := inv_ab i1 l1 (by decide +kernel) (by decide +kernel) (by decide +kernel)
  have i3 := h.inv (i := 2) (j := 3) (k := 1) (by omega) (by omega) (by omega) (by omega)
  have l3 := h.lb (i := 2) (j := 3) (k := 1) (by omega) (by omega) (by omega) (by omega) (r := (1 / 2)) (by decide +kernel) (by decide +kernel)
  have u3 := h.ab (i := 2) (j := 3) (k := 1) (by omega) (by omega) (by omega) (r := (5 / 2)) (by decide +kernel) (by decide +kernel)
  have v3 : Ab (inv2 (aq X 2 3)) 2 := inv_ab i3 l3 (by decide +kernel) (by decide +kernel) (by decide +kernel)
  obtain ⟨t1, t2, t3⟩ := h.two (i := 2) (j := 1) rfl (by omega)
  have z0 := aq_self X 2
  have hM : (aq X 2 0) * (aq X 2 1) * (aq X 2 2) + (aq X 2 0) * (aq X 2 1) * (aq X 2 3) + (aq X 2 0) * (aq X 2 2) * (aq X 2 3) + (aq X 2 1) * (aq X 2 2) * (aq X 2 3) = (aq X 2 1) * ((aq X 2 3) * (aq X 2 0)) := by rw [z0]; exact q2e (by simp [zero2]; try grind) (by simp [zero2]; try grind)
  have h2 : (aq X 2 0) * (aq X 2 1) + (aq X 2 0) * (aq X 2 2) + (aq X 2 0) * (aq X 2 3) + (aq X 2 1) * (aq X 2 2) + (aq X 2 1) * (aq X 2 3) + (aq X 2 2) * (aq X 2 3) = (aq X 2 1) * (aq X 2 3) + (aq X 2 1) * (aq X 2 0) + (aq X 2 3) * (aq X 2 0) := by rw [z0]; exact q2e (by simp [zero2]; try grind) (by simp [zero2]; try grind)
  have h3 : (aq X 2 0) + (aq X 2 1) + (aq X 2 2) + (aq X 2 3) = (aq X 2 1) + (aq X 2 3) + (aq X 2 0) := by rw [z0]; exact q2e (by simp [zero2]; try grind) (by simp [zero2]; try grind)
  have K := cof4m i1 i3 i0 hM h2 h3 t2 t3 v0 t1 l0 u1 u3 u0
  refine ⟨_, _, _, _, _, _, _, _, _, _, _, _, T4md, T4mr, T4mt, T4mn, T4mq, K, by rw [eEv4, eEs4]; exact T4m_ok, ?_, by decide +kernel, fun z => ?_⟩
  · refine Rat.le_trans (Rat.add_le_add_right.2 nbd) (by decide +kernel)
  · have e : VV (gq X z) 4 = VV (fun j => (z - rq X 2) + (if j = 0 then aq X 2 0 else if j = 1 then aq X 2 1 else if j = 2 then aq X 2 2 else aq X 2 3)) 4 := VV_congr (fun j hj => by
      rw [gq_at X z 2 j]
      rcases (by omega : j = 0 ∨ j = 1 ∨ j = 2 ∨ j = 3) with rfl | rfl | rfl | rfl <;> rfl)
    obtain ⟨p1, p2'⟩ := pr4 (z - rq X 2) (aq X 2 0) (aq X 2 1) (aq X 2 2) (aq X 2 3)
    have pz : aq X 2 0 * aq X 2 1 * (aq X 2 2 * aq X 2 3) = zero2 := by rw [z0]; exact q2e (by simp [zero2]; try grind) (by simp [zero2]; try grind)
    rw [pz, zero_add2] at p1
    rw [e]
    exact ⟨p1, p2'⟩
theorem loc43 (h : DX ls X) (h4 : ls.length ≤ 4) (hn : ls.length = 4) : LocAt X 4 3 := by
  have nbd := rq_norm (nb_ok h h4 (j := 3) (by omega))
  have nbe : ((nb 3 : Nat) : Rat) = 24 := by decide +kernel
  rw [nbe] at nbd
  have i0 := h.inv (i := 3) (j := 0) (k := 3) (by omega) (by omega) (by omega) (by omega)
  have l0 := h.lb (i := 3) (j := 0) (k := 3) (by omega) (by omega) (by omega) (by omega) (r := (5 / 2)) (by decide +kernel) (by decide +kernel)
  have u0 := h.ab (i := 3) (j := 0) (k := 3) (by omega) (by omega) (by omega) (r := (4032 / 1000)) (by decide +kernel) (by decide +kernel)
  have v0 : Ab (inv2 (aq X 3 0)) (2 / 5) := inv_ab i0 l0 (by decide +kernel) (by decide +kernel) (by decide +kernel)
  have i1 := h.inv (i := 3) (j := 1) (k := 2) (by omega) (by omega) (by omega) (by omega)
  have l1 := h.lb (i := 3) (j := 1) (k := 2) (by omega) (by omega) (by omega) (by omega) (r := (3 / 2)) (by decide +kernel) (by decide +kernel)
  have u1 := h.ab (i := 3) (j := 1) (k := 2) (by omega) (by omega) (by omega) (r := (3202 / 1000)) (by decide +kernel) (by decide +kernel)
  have v1 : Ab (inv2 (aq X 3 1)) (2 / 3) := inv_ab i1 l1 (by decide +kernel) (by decide +kernel) (by decide +kernel)
  have i2 := h.inv (i := 3) (j := 2) (k := 1) (by omega) (by omega) (by omega) (by omega)
  have l2 := h.lb (i := 3) (j := 2) (k := 1) (by omega) (by omega) (by omega) (by omega) (r := (1 / 2)) (by decide +kernel) (by decide +kernel)
  have u2 := h.ab (i := 3) (j := 2) (k := 1) (by omega) (by omega) (by omega) (r := (5 / 2)) (by decide +kernel) (by decide +kernel)
  have v2 : Ab (inv2 (aq X 3 2)) 2 := inv_ab i2 l2 (by decide +kernel) (by decide +kernel) (by decide +kernel)
  have z0 := aq_self X 3
  have hM : (aq X 3 0) * (aq X 3 1) * (aq X 3 2) + (aq X 3 0) * (aq X 3 1) * (aq X 3 3) + (aq X 3 0) * (aq X 3 2) * (aq X 3 3) + (aq X 3 1) * (aq X 3 2) * (aq X 3 3) = (aq X 3 2) * ((aq X 3 1) * (aq X 3 0)) := by rw [z0]; exact q2e (by simp [zero2]; try grind) (by simp [zero2]; try grind)
  have h2 : (aq X 3 0) * (aq X 3 1) + (aq X 3 0) * (aq X 3 2) + (aq X 3 0) * (aq X 3 3) + (aq X 3 1) * (aq X 3 2) + (aq X 3 1) * (aq X 3 3) + (aq X 3 2) * (aq X 3 3) = (aq X 3 2) * (aq X 3 1) + (aq X 3 2) * (aq X 3 0) + (aq X 3 1) * (aq X 3 0) := by rw [z0]; exact q2e (by simp [zero2]; try grind) (by simp [zero2]; try grind)
  have h3 : (aq X 3 0) + (aq X 3 1) + (aq X 3 2) + (aq X 3 3) = (aq X 3 2) + (aq X 3 1) + (aq X 3 0) := by rw [z0]; exact q2e (by simp [zero2]; try grind) (by simp [zero2]; try grind)
  have K := cof4e i2 i1 i0 hM h2 h3 v2 v1 v0 l2 l1 l0 u2 u1 u0
  refine ⟨_, _, _, _, _, _, _, _, _, _, _, _, T4ed, T4er, T4et, T4en, T4eq, K, by rw [eEv4, eEs4]; exact T4e_ok, ?_, by decide +kernel, fun z => ?_⟩
  · refine Rat.le_trans (Rat.add_le_add_right.2 nbd) (by decide +kernel)
  · have e : VV (gq X z) 4 = VV (fun j => (z - rq X 3) + (if j = 0 then aq X 3 0 else if j = 1 then aq X 3 1 else if j = 2 then aq X 3 2 else aq X 3 3)) 4 := VV_congr (fun j hj => by
      rw [gq_at X z 3 j]
      rcases (by omega : j = 0 ∨ j = 1 ∨ j = 2 ∨ j = 3) with rfl | rfl | rfl | rfl <;> rfl)
    obtain ⟨p1, p2'⟩ := pr4 (z - rq X 3) (aq X 3 0) (aq X 3 1) (aq X 3 2) (aq X 3 3)
    have pz : aq X 3 0 * aq X 3 1 * (aq X 3 2 * aq X 3 3) = zero2 := by rw [z0]; exact q2e (by simp [zero2]; try grind) (by simp [zero2]; try grind)
    rw [pz, zero_add2] at p1
    rw [e]
    exact ⟨p1, p2'⟩
theorem DX.loc (h : DX ls X) (h4 : ls.length ≤ 4) {i : Nat} (hi : i < ls.length) : LocAt X ls.length i := by
  generalize hn : ls.length = n at *
  rcases (by omega : (n = 1 ∧ i = 0) ∨ (n = 2 ∧ i = 0) ∨ (n = 2 ∧ i = 1) ∨ (n = 3 ∧ i = 0) ∨ (n = 3 ∧ i = 1) ∨ (n = 3 ∧ i = 2) ∨ (n = 4 ∧ i = 0) ∨ (n = 4 ∧ i = 1) ∨ (n = 4 ∧ i = 2) ∨ (n = 4 ∧ i = 3)) with ⟨rfl, rfl⟩ | ⟨rfl, rfl⟩ | ⟨rfl, rfl⟩ | ⟨rfl, rfl⟩ | ⟨rfl, rfl⟩ | ⟨rfl, rfl⟩ | ⟨rfl, rfl⟩ | ⟨rfl, rfl⟩ | ⟨rfl, rfl⟩ | ⟨rfl, rfl⟩
  · exact loc10 h (by omega) hn
  · exact loc20 h (by omega) hn
  · exact loc21 h (by omega) hn
  · exact loc30 h (by omega) hn
  · exact loc31 h (by omega) hn
  · exact loc32 h (by omega) hn
  · exact loc40 h (by omega) hn
  · exact loc41 h (by omega) hn
  · exact loc42 h (by omega) hn
  · exact loc43 h (by omega) hn
end
end Go.Proofs.YtfnhddaofllniaaGreat

/- The computed values and slopes of the polynomial of drawn roots, a constant added, near each root. Conditions: up to four roots; the terms are exact. -/
namespace Go.Proofs.YtfnhddaofllniaaGreat
open Go
set_option linter.unusedSimpArgs false
set_option linter.unusedVariables false

/-- The terms of the polynomial of the roots, h added. -/
structure HPo (F : List C2) (X : Nat → Int × Int) (n : Nat) (h : Q2) : Prop where
  l : F.length = n + 1
  f0 : fC (F.getD 0 (0, 0))
  c0 : cv (F.getD 0 (0, 0)) = cq X n 0 + h
  b0 : N (cv (F.getD 0 (0, 0))) ≤ 9 ∨ n = 4 ∧ N (cv (F.getD 0 (0, 0))) ≤ 24
  t : ∀ k, 1 ≤ k → k ≤ n → TK X n (F.getD k (0, 0)) 1 k
theorem v1_add (c0 c1 z h : Q2) : v1 (c0 + h) c1 z = v1 c0 c1 z + h := q2e (by simp [v1]; grind) (by simp [v1]; grind)
theorem v2_add (c0 c1 c2 z h : Q2) : v2 (c0 + h) c1 c2 z = v2 c0 c1 c2 z + h := q2e (by simp [v2]; grind) (by simp [v2]; grind)
theorem v3_add (c0 c1 c2 c3 z h : Q2) : v3 (c0 + h) c1 c2 c3 z = v3 c0 c1 c2 c3 z + h := q2e (by simp [v3]; grind) (by simp [v3]; grind)
theorem v4_add (c0 c1 c2 c3 c4 z h : Q2) : v4 (c0 + h) c1 c2 c3 c4 z = v4 c0 c1 c2 c3 c4 z + h := by
  unfold v4
  generalize ((c4 * z + c3) * z + c2) * z + c1 = w
  exact q2e (by simp; grind) (by simp; grind)
section
variable {F : List C2} {X : Nat → Int × Int} {n : Nat} {h : Q2}
theorem HPo.poly (H : HPo F X n h) (h1 : 1 ≤ n) (h4 : n ≤ 4) (hX : ∀ j, j < n → nz (X j) ≤ nb j) : rootedF F = true ∧ validF F = true ∧ slopePolyF F = (slopeF F, true) ∧ validF (slopeF F) = true ∧ (slopeF F).length = n ∧
    ∀ k, k < n → TK X n ((slopeF F).getD k (0, 0)) (k + 1) (k + 1) := by
  obtain ⟨t1, t2⟩ := (H.t n h1 (Nat.le_refl _)).top (by decide)
  have hv : validF F = true := by
    refine (poly_of (F := F) (by have := H.l; omega) ?_ (by rw [H.l]; exact t2)).1
    rw [List.all_eq_true]
    intro x hx
    obtain ⟨i, hi, rfl⟩ := List.getElem_of_mem hx
    have e : F.getD i (0, 0) = F[i] := by simp [List.getD, hi]
    rw [← e]
    by_cases h0 : i = 0
    · subst h0; exact (fC_iff _).1 H.f0
    · exact (H.t i (by omega) (by have := H.l; omega)).fin
  obtain ⟨l1, l2⟩ := slopeF_get H.l h1
  have TS : ∀ k, k < n → TK X n ((slopeF F).getD k (0, 0)) (k + 1) (k + 1) := by
    intro k hk
    rw [l2 k hk]
    have := (H.t (k + 1) (by omega) (by omega)).scale hX (c' := k + 1) (kf_up (k + 1) (by omega)) (slope_tab2 _ (by omega) k (by omega)) (by omega)
    rwa [Nat.mul_one] at this
  have V : validF (slopeF F) = true ∧ polyF (slopeF F) = (slopeF F, true) := by
    have ht := TS (n - 1) (by omega)
    rw [show n - 1 + 1 = n by omega] at ht
    obtain ⟨t1, t2⟩ := ht.top (by omega)
    by_cases hn : n = 1
    · subst hn
      obtain ⟨x, hx⟩ := List.length_eq_one_iff.1 l1
      rw [hx] at t1 ⊢
      exact poly_one t1
    · refine poly_of (by omega) ?_ (by rw [l1]; exact t2)
      rw [List.all_eq_true]
      intro x hx
      obtain ⟨i, hi, rfl⟩ := List.getElem_of_mem hx
      have := (TS i (by omega)).fin
      rwa [show (slopeF F).getD i (0, 0) = (slopeF F)[i] by simp [List.getD, hi]] at this
  exact ⟨by unfold rootedF; rw [hv]; have := H.l; simp; omega, hv, by unfold slopePolyF; rw [if_pos hv]; exact V.2, V.1, l1, TS⟩
theorem ev_at1 (H : HPo F X 1 h) (hX : ∀ j, j < 1 → nz (X j) ≤ nb j) {z : C2} (hz : fC z) (hr : N (cv z) ≤ 25 / 8) :
    safeN F z ∧ safeN (slopeF F) z ∧ Nr (nestedF F z) ((VV (gq X (cv z)) 1).1 + h) (EvN 1) ∧ Nr (nestedF (slopeF F) z) (VV (gq X (cv z)) 1).2.1 (EsN 1) := by
  obtain ⟨_, _, _, _, l1, TS⟩ := H.poly (by decide) (by decide) hX
  have h0 : N (cv (F.getD 0 (0, 0))) ≤ 9 := by
    rcases H.b0 with a | ⟨a, _⟩
    · exact a
    · cases a
  obtain ⟨a1, a2⟩ := chU1 hz hr (H.t 1 (by decide) (by decide)).f ((H.t 1 (by decide) (by decide)).le hX (by decide +kernel)) H.f0 (Rat.le_trans h0 (by decide +kernel))
  obtain ⟨g1, g2⟩ := glev1 X (cv z)
  have eF := (list_four (L := F)).1 (by rw [H.l])
  rw [← eF] at a1 a2
  have b1 := a2.nr (E := EvN 1) (by rw [eEv1]; decide +kernel)
  rw [H.c0, (H.t 1 (by decide) (by decide)).v (by decide), v1_add] at b1
  simp only [sc_one] at b1
  rw [g1] at b1
  obtain ⟨s, hs⟩ := List.length_eq_one_iff.1 l1
  have T0 := TS 0 (by decide)
  rw [hs] at T0 ⊢
  refine ⟨a1, trivial, b1, ?_⟩
  have := nr_exact T0.f (T0.v (by decide))
  rw [show ((0 + 1 : Nat) : Rat) = ((1 : Nat) : Rat) from rfl, sc_one, g2] at this
  rw [eEs1]
  exact this
theorem ev_at2 (H : HPo F X 2 h) (hX : ∀ j, j < 2 → nz (X j) ≤ nb j) {z : C2} (hz : fC z) (hr : N (cv z) ≤ 25 / 8) :
    safeN F z ∧ safeN (slopeF F) z ∧ Nr (nestedF F z) ((VV (gq X (cv z)) 2).1 + h) (EvN 2) ∧ Nr (nestedF (slopeF F) z) (VV (gq X (cv z)) 2).2.1 (EsN 2) := by
  obtain ⟨_, _, _, _, l1, TS⟩ := H.poly (by decide) (by decide) hX
  have h0 : N (cv (F.getD 0 (0, 0))) ≤ 9 := by
    rcases H.b0 with a | ⟨a, _⟩
    · exact a
    · cases a
  obtain ⟨a1, a2⟩ := chU2 hz hr (H.t 2 (by decide) (by decide)).f ((H.t 2 (by decide) (by decide)).le hX (by decide +kernel)) (H.t 1 (by decide) (by decide)).f ((H.t 1 (by decide) (by decide)).le hX (by decide +kernel)) H.f0 (Rat.le_trans h0 (by decide +kernel))
  obtain ⟨g1, g2⟩ := glev2 X (cv z)
  have eF := (list_four (L := F)).2.1 (by rw [H.l])
  rw [← eF] at a1 a2
  have b1 := a2.nr (E := EvN 2) (by rw [eEv2]; decide +kernel)
  rw [H.c0, (H.t 1 (by decide) (by decide)).v (by decide), (H.t 2 (by decide) (by decide)).v (by decide), v2_add] at b1
  simp only [sc_one] at b1
  rw [g1] at b1
  obtain ⟨c1, c2⟩ := chX1 hz hr (TS 1 (by decide)).f ((TS 1 (by decide)).le hX (by decide +kernel)) (TS 0 (by decide)).f ((TS 0 (by decide)).le hX (by decide +kernel))
  have eS := (list_four (L := slopeF F)).1 l1
  rw [← eS] at c1 c2
  have d1 := c2.nr (E := EsN 2) (by rw [eEs2]; decide +kernel)
  rw [(TS 0 (by decide)).v (by decide), (TS 1 (by decide)).v (by decide)] at d1
  rw [show ((0 + 1 : Nat) : Rat) = ((1 : Nat) : Rat) from rfl, sc_one] at d1
  have d2 : Nr (nestedF (slopeF F) z) (v1 (cq X 2 1) (sc 2 (cq X 2 2)) (cv z)) (EsN 2) := d1
  rw [g2] at d2
  exact ⟨a1, c1, b1, d2⟩
theorem ev_at3 (H : HPo F X 3 h) (hX : ∀ j, j < 3 → nz (X j) ≤ nb j) {z : C2} (hz : fC z) (hr : N (cv z) ≤ 25 / 8) :
    safeN F z ∧ safeN (slopeF F) z ∧ Nr (nestedF F z) ((VV (gq X (cv z)) 3).1 + h) (EvN 3) ∧ Nr (nestedF (slopeF F) z) (VV (gq X (cv z)) 3).2.1 (EsN 3) := by
  obtain ⟨_, _, _, _, l1, TS⟩ := H.poly (by decide) (by decide) hX
  have h0 : N (cv (F.getD 0 (0, 0))) ≤ 9 := by
    rcases H.b0 with a | ⟨a, _⟩
    · exact a
    · cases a
  obtain ⟨a1, a2⟩ := chU3 hz hr (H.t 3 (by decide) (by decide)).f ((H.t 3 (by decide) (by decide)).le hX (by decide +kernel)) (H.t 2 (by decide) (by decide)).f ((H.t 2 (by decide) (by decide)).le hX (by decide +kernel)) (H.t 1 (by decide) (by decide)).f ((H.t 1 (by decide) (by decide)).le hX (by decide +kernel)) H.f0 (Rat.le_trans h0 (by decide +kernel))
  obtain ⟨g1, g2⟩ := glev3 X (cv z)
  have eF := (list_four (L := F)).2.2.1 (by rw [H.l])
  rw [← eF] at a1 a2
  have b1 := a2.nr (E := EvN 3) (by rw [eEv3]; decide +kernel)
  rw [H.c0, (H.t 1 (by decide) (by decide)).v (by decide), (H.t 2 (by decide) (by decide)).v (by decide), (H.t 3 (by decide) (by decide)).v (by decide), v3_add] at b1
  simp only [sc_one] at b1
  rw [g1] at b1
  obtain ⟨c1, c2⟩ := chX2 hz hr (TS 2 (by decide)).f ((TS 2 (by decide)).le hX (by decide +kernel)) (TS 1 (by decide)).f ((TS 1 (by decide)).le hX (by decide +kernel)) (TS 0 (by decide)).f ((TS 0 (by decide)).le hX (by decide +kernel))
  have eS := (list_four (L := slopeF F)).2.1 l1
  rw [← eS] at c1 c2
  have d1 := c2.nr (E := EsN 3) (by rw [eEs3]; decide +kernel)
  rw [(TS 0 (by decide)).v (by decide), (TS 1 (by decide)).v (by decide), (TS 2 (by decide)).v (by decide)] at d1
  rw [show ((0 + 1 : Nat) : Rat) = ((1 : Nat) : Rat) from rfl, sc_one] at d1
  have d2 : Nr (nestedF (slopeF F) z) (v2 (cq X 3 1) (sc 2 (cq X 3 2)) (sc 3 (cq X 3 3)) (cv z)) (EsN 3) := d1
  rw [g2] at d2
  exact ⟨a1, c1, b1, d2⟩
theorem ev_at4 (H : HPo F X 4 h) (hX : ∀ j, j < 4 → nz (X j) ≤ nb j) {z : C2} (hz : fC z) (hr : N (cv z) ≤ 25 / 8) :
    safeN F z ∧ safeN (slopeF F) z ∧ Nr (nestedF F z) ((VV (gq X (cv z)) 4).1 + h) (EvN 4) ∧ Nr (nestedF (slopeF F) z) (VV (gq X (cv z)) 4).2.1 (EsN 4) := by
  obtain ⟨_, _, _, _, l1, TS⟩ := H.poly (by decide) (by decide) hX
  have h0 : N (cv (F.getD 0 (0, 0))) ≤ 24 := by
    rcases H.b0 with a | ⟨_, a⟩
    · exact Rat.le_trans a (by decide +kernel)
    · exact a
  obtain ⟨a1, a2⟩ := chU4 hz hr (H.t 4 (by decide) (by decide)).f ((H.t 4 (by decide) (by decide)).le hX (by decide +kernel)) (H.t 3 (by decide) (by decide)).f ((H.t 3 (by decide) (by decide)).le hX (by decide +kernel)) (H.t 2 (by decide) (by decide)).f ((H.t 2 (by decide) (by decide)).le hX (by decide +kernel)) (H.t 1 (by decide) (by decide)).f ((H.t 1 (by decide) (by decide)).le hX (by decide +kernel)) H.f0 h0
  obtain ⟨g1, g2⟩ := glev4 X (cv z)
  have eF := (list_four (L := F)).2.2.2 (by rw [H.l])
  rw [← eF] at a1 a2
  have b1 := a2.nr (E := EvN 4) (by rw [eEv4]; decide +kernel)
  rw [H.c0, (H.t 1 (by decide) (by decide)).v (by decide), (H.t 2 (by decide) (by decide)).v (by decide), (H.t 3 (by decide) (by decide)).v (by decide), (H.t 4 (by decide) (by decide)).v (by decide), v4_add] at b1
  simp only [sc_one] at b1
  rw [g1] at b1
  obtain ⟨c1, c2⟩ := chX3 hz hr (TS 3 (by decide)).f ((TS 3 (by decide)).le hX (by decide +kernel)) (TS 2 (by decide)).f ((TS 2 (by decide)).le hX (by decide +kernel)) (TS 1 (by decide)).f ((TS 1 (by decide)).le hX (by decide +kernel)) (TS 0 (by decide)).f ((TS 0 (by decide)).le hX (by decide +kernel))
  have eS := (list_four (L := slopeF F)).2.2.1 l1
  rw [← eS] at c1 c2
  have d1 := c2.nr (E := EsN 4) (by rw [eEs4]; decide +kernel)
  rw [(TS 0 (by decide)).v (by decide), (TS 1 (by decide)).v (by decide), (TS 2 (by decide)).v (by decide), (TS 3 (by decide)).v (by decide)] at d1
  rw [show ((0 + 1 : Nat) : Rat) = ((1 : Nat) : Rat) from rfl, sc_one] at d1
  have d2 : Nr (nestedF (slopeF F) z) (v3 (cq X 4 1) (sc 2 (cq X 4 2)) (sc 3 (cq X 4 3)) (sc 4 (cq X 4 4)) (cv z)) (EsN 4) := d1
  rw [g2] at d2
  exact ⟨a1, c1, b1, d2⟩
/-- The local form of the computed polynomial. -/
theorem HPo.loc (H : HPo F X n h) (h1 : 1 ≤ n) (h4 : n ≤ 4) (hX : ∀ j, j < n → nz (X j) ≤ nb j) {i : Nat} {M IM c2 c3 c4 : Q2} (hi : IM * M = one2) (hz : ∀ z, (VV (gq X z) n).1 = lP M c2 c3 c4 (z - rq X i) ∧ (VV (gq X z) n).2.1 = lS M c2 c3 c4 (z - rq X i)) :
    Loc F (slopeF F) M (IM * IM * c2) (IM * (IM * IM) * c3) (IM * IM * (IM * IM) * c4) (rq X i) h (EvN n) (EsN n) := by
  obtain ⟨p1, p2', p3, p4, _, _⟩ := H.poly h1 h4 hX
  refine ⟨p1, p2', p3, p4, fun z fz nzz => ?_⟩
  rw [lV_of hi, lS_of hi, ← (hz (cv z)).1, ← (hz (cv z)).2]
  rcases (by omega : n = 1 ∨ n = 2 ∨ n = 3 ∨ n = 4) with rfl | rfl | rfl | rfl
  · exact ev_at1 H hX fz nzz
  · exact ev_at2 H hX fz nzz
  · exact ev_at3 H hX fz nzz
  · exact ev_at4 H hX fz nzz
end
end Go.Proofs.YtfnhddaofllniaaGreat
