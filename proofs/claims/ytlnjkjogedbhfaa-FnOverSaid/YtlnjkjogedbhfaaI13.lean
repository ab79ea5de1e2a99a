/- Monic lists and greatest common ones over a prime: the walks. Conditions: terms are remainders of a small prime, lengths of at most 100. -/
import Derived.Test.YtlnjkjogedbhfaaI12
import Derived.RegionTactic
import Derived.BigRegion
namespace Go.Proofs.Ytlnjkjogedbhfaa
open Go Go.RowKit
set_option linter.unusedSimpArgs false
set_option linter.unusedVariables false

/-- A list that is read; memory may have been made. -/
def RR (zs : List Int) (w : World) (e : Ending) (w' : World) : Prop := ∃ v, e = .returned v ∧ RdI w' v zs ∧ Below w.heap.size w w'

set_option maxRecDepth 100000 in
set_option maxHeartbeats 800000 in
theorem monic_spec (v : Value) (zs : List Int) (m : Int) (w : World) (hv : RdI w v zs) (hne : zs ≠ []) (hl : zs.length ≤ 100) (hov : OvI m zs) (hm : primeB m = true) : Calls Try.prog 126 #[v, .int .i64 m] w (RR (monicS m zs) w) := by
  have hmp := primeB_bd hm
  have hn1 : 0 < zs.length := List.length_pos_iff.2 hne
  have Hv := Lib.hid hv
  obtain ⟨b, off, cap, rfl, hb, hc⟩ := hv.open hne
  have Hc := Lib.hid (fun (w' : World) (h : Below w.heap.size w w') i (hi : i < zs.length) => (h.cell (p := ⟨b, off + i, none⟩) hb).trans (hc i hi))
  have hlz : 0 ≤ lastZ zs ∧ lastZ zs < m := hov (zs.length - 1)
  have c0 := hc (zs.length - 1) (by omega)
  rw [← lastZ] at c0
  have hi0 := invZ_bd (lastZ zs) m (by omega)
  clear hc hv
  cases hz : zeroB zs
  · have Hd := Lib.hid (show monicS m zs = buildZ (fun k => (zs.getD k 0 * invZ (lastZ zs) m) % m) zs.length by rw [build_map (fun z => (z * invZ (lastZ zs) m) % m), monicS, hz]; rfl)
    generalize lastZ zs = lz at *
    go_enter Try.func126, Try.ntmps126
    go_wp2_with fail
    (go_at_call 123; ((with_reducible refine (zero_spec _ zs _ Hv.out (by omega)).mono ?_); rintro e w' ⟨rfl, rfl⟩))
    go_wp2_with fail
    (go_at_call 127; ((with_reducible refine (inverse_spec _ _ _ (by omega) (by omega) (by omega) (by omega)).mono ?_); rintro e w' ⟨rfl, rfl⟩))
    clear hz
    go_wp2
    go_loopw [6, 22] (fun ov i wr => ∃ k : Nat, k ≤ zs.length ∧ i = .int .i64 k ∧ RowI wr w.heap.size ov (buildZ (fun k => (zs.getD k 0 * invZ lz m) % m) k) ∧ Below w.heap.size w wr) (fun _ i _ => zs.length - (intOf i).toNat)
    case atStart => exact ⟨0, Nat.zero_le _, rfl, RowI.emptyB (by simp) (by simp <;> omega), by (repeat' (first | (with_reducible exact Below.refl _ _) | (with_reducible assumption) | (with_reducible refine Below.alloc ?_ ?_ _) | (with_reducible refine Below.setCell ?_ ?_ _) | (with_reducible refine Below.drew ?_) | (with_reducible refine Below.via (by assumption) ?_ ?_) | go_size))⟩
    case round =>
      obtain ⟨k, hk, rfl, hrow, hbel⟩ := hrel
      by_cases hlt : k < zs.length
      · have hsz := hbel.size
        have hlen : (buildZ (fun k => (zs.getD k 0 * invZ lz m) % m) k).length ≤ 1099511627776 := by rw [buildZ_length]; omega
        have Hn := Lib.hid (show buildZ (fun k => (zs.getD k 0 * invZ lz m) % m) k ++ [(zs.getD k 0 * invZ lz m) % m] = buildZ (fun k => (zs.getD k 0 * invZ lz m) % m) (k + 1) from buildZ_succ _ k)
        have c1 := Hc.out wr hbel k hlt
        have hz := hov k
        have hp := mul_small (x := zs.getD k 0) (k := invZ lz m) (by omega) (by omega) (by omega) (by omega)
        generalize zs.getD k 0 = z at *
        generalize invZ lz m = inv at *
        go_wp2_with (at_builtin; refine wpList_pushI hrow rfl _ _ rfl int64S_under hlen (by first | omega | (simp only [World.size_alloc]; omega)) rfl rfl ?_; intro v1 w1 hr1 hb1)
        go_roundw
        case rel => exact ⟨k + 1, by omega, by go_num, by rw [← Hn.out]; exact hr1, hbel.trans (hb1.mono (by omega))⟩
        case measure => simp [intOf]; omega
      · obtain rfl : k = zs.length := by omega
        have hsz := hbel.size
        have Hrow := Lib.hid hrow
        clear hrow
        go_wp2_with fail
        go_ret
        rw [Hd.out]
        exact ⟨_, rfl, Hrow.out.own.rd, hbel⟩
  · have Hd := Lib.hid (show monicS m zs = zs by rw [monicS, hz]; rfl)
    go_enter Try.func126, Try.ntmps126
    go_wp2_with fail
    (go_at_call 123; ((with_reducible refine (zero_spec _ zs _ Hv.out (by omega)).mono ?_); rintro e w' ⟨rfl, rfl⟩))
    go_wp2_with fail
    go_ret
    rw [Hd.out]
    exact ⟨_, rfl, Hv.out, Below.refl _ _⟩

/-- What holds at the head of the reference's loop. -/
def GS (w : World) (m : Int) (a b : List Int) (g : Nat) (va vb : Value) (wr : World) : Prop :=
  ∃ A B, RdI wr va A ∧ RdI wr vb B ∧ Ovr m A ∧ Ovr m B ∧ gcdZ m A B = gcdZ m a b ∧ meas B = g ∧ Below w.heap.size w wr

set_option maxRecDepth 100000 in
set_option maxHeartbeats 800000 in
theorem common_spec (va vb : Value) (a b : List Int) (m : Int) (w : World) (ha : RdI w va a) (hb : RdI w vb b) (hm : primeB m = true) (hoa : Ovr m a) (hob : Ovr m b) : Calls Try.prog 72 #[va, vb, .int .i64 m] w (RR (monicS m (gcdZ m a b)) w) := by
  have hg0 : GS w m a b (meas b) va vb w := ⟨a, b, ha, hb, hoa, hob, rfl, rfl, Below.refl _ _⟩
  have Hg0 := Lib.hid hg0
  have Hm := Lib.hid hm
  have HG := Lib.hid (gcdZ_ovr hm (Nat.lt_succ_self _) hoa hob)
  obtain ⟨aoa, ca, rfl⟩ := ha.shape
  obtain ⟨aob, cb, rfl⟩ := hb.shape
  clear hg0 ha hb hm
  go_enter Try.func72, Try.ntmps72
  go_wp2
  go_loopg [0, 1] (meas b) (fun g u v wr => GS w m a b g u v wr)
  case atStart => exact Hg0.out
  case round =>
    obtain ⟨A, B, hA, hB, hoA, hoB, hgc, hme, hbel⟩ := hrel
    have hA' := Lib.hid hA
    have hB' := Lib.hid hB
    have Hgc := Lib.hid hgc
    have Hme := Lib.hid hme
    have HoA := Lib.hid hoA
    have HoB := Lib.hid hoB
    obtain ⟨aoA, cA, rfl⟩ := hA.shape
    obtain ⟨aoB, cB, rfl⟩ := hB.shape
    have hl1 := hoA.2.2
    have hl2 := hoB.2.2
    clear hA hB hgc hme hoA hoB
    have hsz := hbel.size
    cases hz : zeroB B
    · have Hz := Lib.hid hz
      go_wp2_with fail
      (go_at_call 123; ((with_reducible refine (zero_spec _ B _ hB'.out (by omega)).mono ?_); rintro e w' ⟨rfl, rfl⟩))
      go_wp2_with fail
      clear hz
      (go_at_call 76; ((with_reducible refine (divide_spec _ _ A B m _ hA'.out hB'.out Hm.out HoA.out.ov HoB.out.ov HoA.out.ne HoB.out.ne hl1 hl2).mono ?_); rintro e w' ⟨v1, v2, rfl, ho1, ho2, hb1⟩))
      have Ho2 := Lib.hid (show OwI w' wr.heap.size v2 (divF A B m).2 by have h := ho2; rw [divS_ovr Hm.out HoA.out HoB.out Hz.out] at h; exact h)
      obtain ⟨ao2, c2, rfl⟩ := Ho2.out.rd.shape
      obtain ⟨ao1, c1, rfl⟩ := ho1.rd.shape
      clear ho1 ho2
      go_wp2_with fail
      go_roundg (meas (divF A B m).2)
      case measure => rw [← Hme.out]; exact divF_rest_length A B m HoB.out.ne Hz.out
      case rel =>
        have hd := divF_ovr Hm.out HoA.out HoB.out Hz.out
        exact ⟨B, (divF A B m).2, hB'.out.below hb1, Ho2.out.rd, HoB.out, hd.2.1, by rw [← gcdZ_step HoB.out.ne Hz.out]; exact Hgc.out, rfl, by (repeat' (first | (with_reducible exact Below.refl _ _) | (with_reducible assumption) | (with_reducible refine Below.alloc ?_ ?_ _) | (with_reducible refine Below.setCell ?_ ?_ _) | (with_reducible refine Below.drew ?_) | (with_reducible refine Below.via (by assumption) ?_ ?_) | go_size))⟩
    · have Hg2 := Lib.hid (show gcdZ m a b = A by rw [← Hgc.out, gcdZ_stop hz])
      go_wp2_with fail
      (go_at_call 123; ((with_reducible refine (zero_spec _ B _ hB'.out (by omega)).mono ?_); rintro e w' ⟨rfl, rfl⟩))
      go_wp2_with fail
      clear hz
      (go_at_call 126; ((with_reducible refine (monic_spec _ A m _ hA'.out HoA.out.ne hl1 HoA.out.ov Hm.out).mono ?_); rintro e w' ⟨v1, rfl, ho1, hb1⟩))
      have Ho1 := Lib.hid ho1
      obtain ⟨ao1, c1, rfl⟩ := ho1.shape
      clear ho1
      go_wp2_with fail
      go_ret
      rw [Hg2.out]
      exact ⟨_, rfl, Ho1.out, by (repeat' (first | (with_reducible exact Below.refl _ _) | (with_reducible assumption) | (with_reducible refine Below.alloc ?_ ?_ _) | (with_reducible refine Below.setCell ?_ ?_ _) | (with_reducible refine Below.drew ?_) | (with_reducible refine Below.via (by assumption) ?_ ?_) | go_size))⟩

/-- What holds at the head of the program's loop: the boxes of both lists and of the result. -/
def GI (w : World) (m : Int) (a b : List Int) (g : Nat) (wr : World) : Prop :=
  ∃ A B aoA cA aoB cB, wr.cell? ⟨w.heap.size, 0, none⟩ = some (.slice aoA A.length cA) ∧ wr.cell? ⟨w.heap.size + 1, 0, none⟩ = some (.slice aoB B.length cB) ∧ wr.cell? ⟨w.heap.size + 1 + 1, 0, none⟩ = some (.slice none 0 0) ∧
    wr.frozen? ⟨w.heap.size, 0, none⟩ = false ∧ wr.frozen? ⟨w.heap.size + 1, 0, none⟩ = false ∧ wr.frozen? ⟨w.heap.size + 1 + 1, 0, none⟩ = false ∧ w.heap.size + 1 + 1 < wr.heap.size ∧
    RdO wr w.heap.size (w.heap.size + 3) (.slice aoA A.length cA) A ∧ RdO wr w.heap.size (w.heap.size + 3) (.slice aoB B.length cB) B ∧ Ovr m A ∧ Ovr m B ∧ gcdZ m A B = gcdZ m a b ∧ meas B = g ∧ Below w.heap.size w wr

set_option maxRecDepth 100000 in
set_option maxHeartbeats 1600000 in
theorem common_impl (va vb : Value) (a b : List Int) (m : Int) (w : World) (ha : RdI w va a) (hb : RdI w vb b) (hm : primeB m = true) (hoa : Ovr m a) (hob : Ovr m b) : Calls Try.prog 81 #[.agg #[va], .agg #[vb], .int .i64 m] w (RW (monicF m (gcdZ m a b)) w) := by
  have Hm := Lib.hid hm
  have Ha := Lib.hid ha
  have Hb := Lib.hid hb
  obtain ⟨aoa, ca, rfl⟩ := ha.shape
  obtain ⟨aob, cb, rfl⟩ := hb.shape
  clear ha hb hm
  go_enter Try.func81, Try.ntmps81
  go_wp2
  go_loopg [7] (meas b) (fun g u wr => GI w m a b g wr)
  case atStart => exact ⟨a, b, _, _, _, _, by go_simp, by go_simp, by go_simp, by go_simp, by go_simp, by go_simp, by simp, RdO.ofOld Ha.out hoa.ne (by (repeat' (first | (with_reducible exact Below.refl _ _) | (with_reducible assumption) | (with_reducible refine Below.alloc ?_ ?_ _) | (with_reducible refine Below.setCell ?_ ?_ _) | (with_reducible refine Below.drew ?_) | (with_reducible refine Below.via (by assumption) ?_ ?_) | go_size))) (Nat.le_refl _), RdO.ofOld Hb.out hob.ne (by (repeat' (first | (with_reducible exact Below.refl _ _) | (with_reducible assumption) | (with_reducible refine Below.alloc ?_ ?_ _) | (with_reducible refine Below.setCell ?_ ?_ _) | (with_reducible refine Below.drew ?_) | (with_reducible refine Below.via (by assumption) ?_ ?_) | go_size))) (Nat.le_refl _), hoa, hob, rfl, rfl, by (repeat' (first | (with_reducible exact Below.refl _ _) | (with_reducible assumption) | (with_reducible refine Below.alloc ?_ ?_ _) | (with_reducible refine Below.setCell ?_ ?_ _) | (with_reducible refine Below.drew ?_) | (with_reducible refine Below.via (by assumption) ?_ ?_) | go_size))⟩
  case round =>
    obtain ⟨A, B, aoA, cA, aoB, cB, x0, x1, x2, y0, y1, y2, hsz, hA, hB, hoA, hoB, hgc, hme, hbel⟩ := hrel
    have hA' := Lib.hid hA
    have hB' := Lib.hid hB
    have Hgc := Lib.hid hgc
    have Hme := Lib.hid hme
    have HoA := Lib.hid hoA
    have HoB := Lib.hid hoB
    have hl1 := hoA.2.2
    have hl2 := hoB.2.2
    clear hA hB hgc hme hoA hoB
    have s0 : w.heap.size < wr.heap.size := by omega
    have s1 : w.heap.size + 1 < wr.heap.size := by omega
    cases hz : zeroB B
    · have Hz := Lib.hid hz
      go_wp2_with fail
      (go_at_call 93; ((with_reducible refine (noWhole_impl _ B _ hB'.out.rd (by omega)).mono ?_); rintro e w' ⟨rfl, hb1⟩))
      obtain ⟨ch1, fh1⟩ := bcell hb1
      have z1 := hb1.size
      go_wp2_with fail
      clear hz
      (go_at_call 88; ((with_reducible refine (divide_impl _ _ A B m _ (hA'.out.rd.below hb1) (hB'.out.rd.below hb1) Hm.out HoA.out.ov HoB.out.ov HoA.out.ne HoB.out.ne hl1 hl2).mono ?_); rintro e w2 ⟨v1, v2, rfl, ho1, ho2, hb2⟩))
      obtain ⟨ch2, fh2⟩ := bcell hb2
      have z2 := hb2.size
      have t0 : w.heap.size < w'.heap.size := by omega
      have t1 : w.heap.size + 1 < w'.heap.size := by omega
      have t2 : w.heap.size + 1 + 1 < w'.heap.size := by omega
      have r0 : w.heap.size < w2.heap.size := by omega
      have r1 : w.heap.size + 1 < w2.heap.size := by omega
      have r2 : w.heap.size + 1 + 1 < w2.heap.size := by omega
      have Ho2 := Lib.hid ho2
      obtain ⟨ao2, c2, rfl⟩ := ho2.rd.shape
      obtain ⟨ao1, c1, rfl⟩ := ho1.rd.shape
      clear ho1 ho2
      go_wp2
      generalize hw3 : (w2.alloc _).alloc _ = w3
      have HX := Lib.hid hw3
      clear hw3
      have q0 : w3.cell? ⟨w.heap.size, 0, none⟩ = some (.slice aoA A.length cA) := by rw [← HX.out]; go_simp
      have q1 : w3.cell? ⟨w.heap.size + 1, 0, none⟩ = some (.slice aoB B.length cB) := by rw [← HX.out]; go_simp
      have q2 : w3.cell? ⟨w.heap.size + 1 + 1, 0, none⟩ = some (.slice none 0 0) := by rw [← HX.out]; go_simp
      have q3 : w3.cell? ⟨w2.heap.size + 1, 0, none⟩ = some (.slice ao2 (divF A B m).2.length c2) := by rw [← HX.out]; go_simp
      have f0 : w3.frozen? ⟨w.heap.size, 0, none⟩ = false := by rw [← HX.out]; go_simp
      have f1 : w3.frozen? ⟨w.heap.size + 1, 0, none⟩ = false := by rw [← HX.out]; go_simp
      have f2 : w3.frozen? ⟨w.heap.size + 1 + 1, 0, none⟩ = false := by rw [← HX.out]; go_simp
      have hb3 : Below w2.heap.size w2 w3 := by rw [← HX.out]; (repeat' (first | (with_reducible exact Below.refl _ _) | (with_reducible assumption) | (with_reducible refine Below.alloc ?_ ?_ _) | (with_reducible refine Below.setCell ?_ ?_ _) | (with_reducible refine Below.drew ?_) | (with_reducible refine Below.via (by assumption) ?_ ?_) | go_size))
      have z3 := hb3.size
      have n1 : ¬ (w2.heap.size + 1 = w.heap.size) := by omega
      have n2 : ¬ (w2.heap.size + 1 = w.heap.size + 1) := by omega
      have n3 : ¬ (w.heap.size = w2.heap.size + 1) := by omega
      have Hw2 := Lib.hid (show Below w.heap.size w w3 by (repeat' (first | (with_reducible exact Below.refl _ _) | (with_reducible assumption) | (with_reducible refine Below.alloc ?_ ?_ _) | (with_reducible refine Below.setCell ?_ ?_ _) | (with_reducible refine Below.drew ?_) | (with_reducible refine Below.via (by assumption) ?_ ?_) | go_size)))
      have HB3 := Lib.hid (show RdO w3 w.heap.size (w.heap.size + 3) (.slice aoB B.length cB) B from ((hB'.out.below hb1).below hb2).below hb3)
      have H23 := Lib.hid (show RdO w3 w.heap.size (w.heap.size + 3) (.slice ao2 (divF A B m).2.length c2) (divF A B m).2 from (RdO.ofOwn Ho2.out (by omega)).below hb3)
      clear hb3 ch2 fh2 ch1 fh1 hb1 hb2
      go_region
      go_wp2
      go_roundg (meas (divF A B m).2)
      case measure => rw [← Hme.out]; exact divF_rest_length A B m HoB.out.ne Hz.out
      case rel =>
        have hd := divF_ovr Hm.out HoA.out HoB.out Hz.out
        have hw3 := Hw2.out
        exact ⟨B, (divF A B m).2, _, _, _, _, by go_simp, by go_simp, by go_simp, by go_simp, by go_simp, by go_simp, by simp; omega, ((HB3.out.setCell (by simp) (by simp) _).setCell (by simp) (by simp) _).drew, ((H23.out.setCell (by simp) (by simp) _).setCell (by simp) (by simp) _).drew, HoB.out, hd.2.1, by rw [← gcdZ_step HoB.out.ne Hz.out]; exact Hgc.out, rfl, by (repeat' (first | (with_reducible exact Below.refl _ _) | (with_reducible assumption) | (with_reducible refine Below.alloc ?_ ?_ _) | (with_reducible refine Below.setCell ?_ ?_ _) | (with_reducible refine Below.drew ?_) | (with_reducible refine Below.via (by assumption) ?_ ?_) | go_size))⟩
    · have Hg2 := Lib.hid (show gcdZ m a b = A by rw [← Hgc.out, gcdZ_stop hz])
      go_wp2_with fail
      (go_at_call 93; ((with_reducible refine (noWhole_impl _ B _ hB'.out.rd (by omega)).mono ?_); rintro e w' ⟨rfl, hb1⟩))
      obtain ⟨ch1, fh1⟩ := bcell hb1
      have z1 := hb1.size
      go_wp2_with fail
      clear hz
      (go_at_call 119; ((with_reducible refine (monic_impl _ A m _ (hA'.out.rd.below hb1) HoA.out.ne hl1 HoA.out.ov Hm.out).mono ?_); rintro e w2 ⟨v1, rfl, ho1, hb2⟩))
      obtain ⟨ch2, fh2⟩ := bcell hb2
      have z2 := hb2.size
      have t2 : w.heap.size + 1 + 1 < w'.heap.size := by omega
      have r2 : w.heap.size + 1 + 1 < w2.heap.size := by omega
      obtain ⟨ao1, c1, rfl⟩ := ho1.rd.shape
      have Ho1 := Lib.hid ho1
      have Hb := Lib.hid (show Below w.heap.size w w2 by (repeat' (first | (with_reducible exact Below.refl _ _) | (with_reducible assumption) | (with_reducible refine Below.alloc ?_ ?_ _) | (with_reducible refine Below.setCell ?_ ?_ _) | (with_reducible refine Below.drew ?_) | (with_reducible refine Below.via (by assumption) ?_ ?_) | go_size)))
      clear ho1 hb1 hb2
      go_wp2_with fail
      (try simp only [Exit.inBlock, Exit.then]); refine bodyPost_ret (by simp [results, Try.results81, go_sem, *]; try rfl) rfl ?_
      rw [Hg2.out]
      have hb3 := Hb.out
      exact ⟨_, rfl, OwI.mono (B := w'.heap.size) (OwI.setCell Ho1.out (by show w.heap.size + 1 + 1 < _; omega) _) (by omega), by (repeat' (first | (with_reducible exact Below.refl _ _) | (with_reducible assumption) | (with_reducible refine Below.alloc ?_ ?_ _) | (with_reducible refine Below.setCell ?_ ?_ _) | (with_reducible refine Below.drew ?_) | (with_reducible refine Below.via (by assumption) ?_ ?_) | go_size))⟩

end Go.Proofs.Ytlnjkjogedbhfaa
