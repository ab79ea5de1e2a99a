/- Euclid with cofactors: the reference's walk. Conditions: those of the lifting. -/
import Derived.Test.YtlnjkjogedbhfaaI47
import Derived.Deep.RegionHeld3
namespace Go.Proofs.Ytlnjkjogedbhfaa
open Go Go.RowKit
set_option linter.unusedSimpArgs false
set_option linter.unusedVariables false

/-- What holds at the head of the loop. -/
def BS (w : World) (m : Int) (g h : List Int) (k : Nat) (v8 v9 v10 v11 v12 v13 : Value) (wr : World) : Prop :=
  ∃ A B s u t v, RdI wr v8 A ∧ RdI wr v9 B ∧ RdI wr v10 s ∧ RdI wr v11 u ∧ RdI wr v12 t ∧ RdI wr v13 v ∧ BezI m 10 A B s u t v ∧ bezZ m A B s u t v = bzF m g h ∧ meas B = k ∧ Below w.heap.size w wr

set_option maxRecDepth 100000 in
set_option maxHeartbeats 4000000 in
theorem bezout_spec (va vb : Value) (p g h : List Int) (m : Int) (w : World) (ha : RdI w va g) (hb : RdI w vb h) (c : LiftC m p g h) : Calls Try.prog 75 #[va, vb, .int .i64 m] w (RL2 (bzS m g h, bzT m g h) w) := by
  have hm2 := c.m2
  have Hm := Lib.hid c.hm
  have HI := Lib.hid c.bi
  have HZ := Lib.hid c.bz
  have Ha := Lib.hid ha
  have Hb := Lib.hid hb
  obtain ⟨aoa, ca, rfl⟩ := ha.shape
  obtain ⟨aob, cb, rfl⟩ := hb.shape
  clear ha hb c
  have L0 := Lib.hid (OwI.rd (OwI.litZ (w := w) (B := 0) (s := w.heap.size) (z := 1) (by simp) (by omega)))
  have L1 := Lib.hid (OwI.rd (OwI.litZ (w := (World.alloc w (.cells #[.int .i64 1] 2))) (B := 0) (s := w.heap.size + 1) (z := 0) (by simp) (by omega)))
  have L2 := Lib.hid (OwI.rd (OwI.litZ (w := (World.alloc (World.alloc w (.cells #[.int .i64 1] 2)) (.cells #[.int .i64 0] 2))) (B := 0) (s := w.heap.size + 1 + 1) (z := 0) (by simp) (by omega)))
  have L3 := Lib.hid (OwI.rd (OwI.litZ (w := (World.alloc (World.alloc (World.alloc w (.cells #[.int .i64 1] 2)) (.cells #[.int .i64 0] 2)) (.cells #[.int .i64 0] 2))) (B := 0) (s := w.heap.size + 1 + 1 + 1) (z := 1) (by simp) (by omega)))
  go_enter Try.func75, Try.ntmps75
  go_wp2
  go_loopg [8, 9, 10, 11, 12, 13] (meas h) (fun k v8 v9 v10 v11 v12 v13 wr => BS w m g h k v8 v9 v10 v11 v12 v13 wr)
  case atStart => exact ⟨g, h, [1], [0], [0], [1], Ha.out.below (by (repeat' (first | (with_reducible exact Below.refl _ _) | (with_reducible assumption) | (with_reducible refine Below.alloc ?_ ?_ _) | (with_reducible refine Below.setCell ?_ ?_ _) | (with_reducible refine Below.drew ?_) | (with_reducible refine Below.via (by assumption) ?_ ?_) | go_size))), Hb.out.below (by (repeat' (first | (with_reducible exact Below.refl _ _) | (with_reducible assumption) | (with_reducible refine Below.alloc ?_ ?_ _) | (with_reducible refine Below.setCell ?_ ?_ _) | (with_reducible refine Below.drew ?_) | (with_reducible refine Below.via (by assumption) ?_ ?_) | go_size))), L0.out.below (by (repeat' (first | (with_reducible exact Below.refl _ _) | (with_reducible assumption) | (with_reducible refine Below.alloc ?_ ?_ _) | (with_reducible refine Below.setCell ?_ ?_ _) | (with_reducible refine Below.drew ?_) | (with_reducible refine Below.via (by assumption) ?_ ?_) | go_size))), L1.out.below (by (repeat' (first | (with_reducible exact Below.refl _ _) | (with_reducible assumption) | (with_reducible refine Below.alloc ?_ ?_ _) | (with_reducible refine Below.setCell ?_ ?_ _) | (with_reducible refine Below.drew ?_) | (with_reducible refine Below.via (by assumption) ?_ ?_) | go_size))), L2.out.below (by (repeat' (first | (with_reducible exact Below.refl _ _) | (with_reducible assumption) | (with_reducible refine Below.alloc ?_ ?_ _) | (with_reducible refine Below.setCell ?_ ?_ _) | (with_reducible refine Below.drew ?_) | (with_reducible refine Below.via (by assumption) ?_ ?_) | go_size))), L3.out, HI.out, rfl, rfl, by (repeat' (first | (with_reducible exact Below.refl _ _) | (with_reducible assumption) | (with_reducible refine Below.alloc ?_ ?_ _) | (with_reducible refine Below.setCell ?_ ?_ _) | (with_reducible refine Below.drew ?_) | (with_reducible refine Below.via (by assumption) ?_ ?_) | go_size))⟩
  case round =>
    clear L0 L1 L2 L3
    obtain ⟨A, B, s, u, t, v, hA, hB, hs, hu, ht, hv, hi, he, hme, hbel⟩ := hrel
    have HA := Lib.hid hA
    have HB := Lib.hid hB
    have Hs := Lib.hid hs
    have Hu := Lib.hid hu
    have Ht := Lib.hid ht
    have Hv := Lib.hid hv
    have Hi := Lib.hid hi
    have He := Lib.hid he
    have Hme := Lib.hid hme
    have hsz := hbel.size
    obtain ⟨pA, qA, rfl⟩ := hA.shape
    obtain ⟨pB, qB, rfl⟩ := hB.shape
    obtain ⟨ps, qs, rfl⟩ := hs.shape
    obtain ⟨pu, qu, rfl⟩ := hu.shape
    obtain ⟨pt, qt, rfl⟩ := ht.shape
    obtain ⟨pv, qv, rfl⟩ := hv.shape
    have hlA := hi.oa.len
    have hlB := hi.ob.len
    have hlA1 := hi.oa.trd.1
    clear hA hB hs hu ht hv hi he hme
    cases hz : zeroB B
    · have Hz := Lib.hid hz
      have HN := Lib.hid (Hi.out.next Hm.out hz (by omega))
      have HQ := Lib.hid (Hi.out.qlen Hm.out hz (by omega))
      have HD := Lib.hid (divF_ovr Hm.out Hi.out.oa Hi.out.ob hz)
      have Ho1 := Lib.hid (single_ovr (m := m) (c := m - 1) (by omega) (by omega))
      have hq9 := HQ.out.1
      have hq8 := HD.out.1.trd.1
      have hq7 := mulF_len m [m - 1] (divF A B m).1
      simp only [List.length_singleton] at hq7
      have HoQ := Lib.hid (mulF_ovr (m := m) (by omega) Ho1.out HD.out.1 (by simp only [List.length_singleton]; omega))
      have HlQ := Lib.hid (show (mulF m [m - 1] (divF A B m).1).length + max u.length v.length ≤ 15 by omega)
      have HoPu := Lib.hid (mulF_ovr (m := m) (by omega) HoQ.out Hi.out.ou (by have := HlQ.out; omega))
      have HoPv := Lib.hid (mulF_ovr (m := m) (by omega) HoQ.out Hi.out.ov (by have := HlQ.out; omega))
      have HSu := Lib.hid (sum_minus (m := m) (by omega) Hi.out.os HD.out.1 Hi.out.ou (by omega))
      have HSv := Lib.hid (sum_minus (m := m) (by omega) Hi.out.ot HD.out.1 Hi.out.ov (by omega))
      clear hz hq9 hq8 hq7
      go_wp2_with fail
      (go_at_call 123; ((with_reducible refine (zero_spec _ B _ HB.out (by omega)).mono ?_); rintro e w' ⟨rfl, rfl⟩))
      rw [Hz.out]
      go_wp2_with fail
      (go_at_call 76; ((with_reducible refine (divide_spec2 _ _ A B m _ HA.out HB.out Hm.out Hi.out.oa Hi.out.ob Hz.out).mono ?_); rintro e w1 ⟨v1, v2, rfl, ho1, ho2, hb1⟩))
      have z1 := hb1.size; (try simp only [World.size_alloc] at z1)
      have HR := Lib.hid ho2.rd
      have HQr := Lib.hid ho1.rd
      obtain ⟨p1, q1, rfl⟩ := ho1.rd.shape
      obtain ⟨p2, q2, rfl⟩ := ho2.rd.shape
      clear ho1 ho2
      have hwm : IntKind.i64.wrap (m - 1) = m - 1 := IntWalk.i64_in _ ⟨by omega, by omega⟩
      have LM := Lib.hid (OwI.rd (OwI.litZ (w := w1) (B := 0) (s := w1.heap.size) (z := m - 1) (by simp) (by omega)))
      go_wp2_with fail
      (go_at_call 67; ((with_reducible refine (mul_spec2 _ _ [m - 1] (divF A B m).1 m _ LM.out (HQr.out.below (by (repeat' (first | (with_reducible exact Below.refl _ _) | (with_reducible assumption) | (with_reducible refine Below.alloc ?_ ?_ _) | (with_reducible refine Below.setCell ?_ ?_ _) | (with_reducible refine Below.drew ?_) | (with_reducible refine Below.via (by assumption) ?_ ?_) | go_size)))) Hm.out Ho1.out HD.out.1).mono ?_); rintro e w2 ⟨x2, rfl, rr2, hb2⟩))
      have z2 := hb2.size; (try simp only [World.size_alloc] at z2)
      obtain ⟨px2, qx2, rfl⟩ := rr2.shape
      go_wp2_with fail
      (go_at_call 71; ((with_reducible refine (mods_mul_spec _ [m - 1] (divF A B m).1 m _ rr2 Hm.out Ho1.out HD.out.1 (by have := HD.out.1.len; simp only [List.length_singleton]; omega)).mono ?_); rintro e w3 ⟨x3, rfl, ro3, hb3⟩))
      have z3 := hb3.size; (try simp only [World.size_alloc] at z3)
      have HmQ := Lib.hid ro3.rd
      obtain ⟨px3, qx3, rfl⟩ := ro3.rd.shape
      clear ro3 rr2
      go_wp2_with fail
      (go_at_call 67; ((with_reducible refine (mul_spec2 _ _ (mulF m [m - 1] (divF A B m).1) u m _ (HmQ.out.below (by (repeat' (first | (with_reducible exact Below.refl _ _) | (with_reducible assumption) | (with_reducible refine Below.alloc ?_ ?_ _) | (with_reducible refine Below.setCell ?_ ?_ _) | (with_reducible refine Below.drew ?_) | (with_reducible refine Below.via (by assumption) ?_ ?_) | go_size)))) (Hu.out.below (by (repeat' (first | (with_reducible exact Below.refl _ _) | (with_reducible assumption) | (with_reducible refine Below.alloc ?_ ?_ _) | (with_reducible refine Below.setCell ?_ ?_ _) | (with_reducible refine Below.drew ?_) | (with_reducible refine Below.via (by assumption) ?_ ?_) | go_size)))) Hm.out HoQ.out Hi.out.ou).mono ?_); rintro e w4 ⟨x4, rfl, rr4, hb4⟩))
      have z4 := hb4.size; (try simp only [World.size_alloc] at z4)
      obtain ⟨px4, qx4, rfl⟩ := rr4.shape
      go_wp2_with fail
      (go_at_call 71; ((with_reducible refine (mods_mul_spec _ (mulF m [m - 1] (divF A B m).1) u m _ rr4 Hm.out HoQ.out Hi.out.ou (by have := HlQ.out; omega)).mono ?_); rintro e w5 ⟨x5, rfl, ro5, hb5⟩))
      have z5 := hb5.size; (try simp only [World.size_alloc] at z5)
      have HR4 := Lib.hid ro5.rd
      obtain ⟨px5, qx5, rfl⟩ := ro5.rd.shape
      clear ro5 rr4
      go_wp2_with fail
      (go_at_call 77; ((with_reducible refine (sum_spec _ _ s (mulF m (mulF m [m - 1] (divF A B m).1) u) m _ (Hs.out.below (by (repeat' (first | (with_reducible exact Below.refl _ _) | (with_reducible assumption) | (with_reducible refine Below.alloc ?_ ?_ _) | (with_reducible refine Below.setCell ?_ ?_ _) | (with_reducible refine Below.drew ?_) | (with_reducible refine Below.via (by assumption) ?_ ?_) | go_size)))) HR4.out Hm.out Hi.out.os (HoPu.out)).mono ?_); rintro e w6 ⟨x6, rfl, ro6, hb6⟩))
      have z6 := hb6.size; (try simp only [World.size_alloc] at z6)
      rw [HSu.out] at ro6
      have HsN := Lib.hid ro6.rd
      obtain ⟨px6, qx6, rfl⟩ := ro6.rd.shape
      clear ro6
      go_wp2_with fail
      (go_at_call 67; ((with_reducible refine (mul_spec2 _ _ (mulF m [m - 1] (divF A B m).1) v m _ (HmQ.out.below (by (repeat' (first | (with_reducible exact Below.refl _ _) | (with_reducible assumption) | (with_reducible refine Below.alloc ?_ ?_ _) | (with_reducible refine Below.setCell ?_ ?_ _) | (with_reducible refine Below.drew ?_) | (with_reducible refine Below.via (by assumption) ?_ ?_) | go_size)))) (Hv.out.below (by (repeat' (first | (with_reducible exact Below.refl _ _) | (with_reducible assumption) | (with_reducible refine Below.alloc ?_ ?_ _) | (with_reducible refine Below.setCell ?_ ?_ _) | (with_reducible refine Below.drew ?_) | (with_reducible refine Below.via (by assumption) ?_ ?_) | go_size)))) Hm.out HoQ.out Hi.out.ov).mono ?_); rintro e w7 ⟨x7, rfl, rr7, hb7⟩))
      have z7 := hb7.size; (try simp only [World.size_alloc] at z7)
      obtain ⟨px7, qx7, rfl⟩ := rr7.shape
      go_wp2_with fail
      (go_at_call 71; ((with_reducible refine (mods_mul_spec _ (mulF m [m - 1] (divF A B m).1) v m _ rr7 Hm.out HoQ.out Hi.out.ov (by have := HlQ.out; omega)).mono ?_); rintro e w8 ⟨x8, rfl, ro8, hb8⟩))
      have z8 := hb8.size; (try simp only [World.size_alloc] at z8)
      have HR7 := Lib.hid ro8.rd
      obtain ⟨px8, qx8, rfl⟩ := ro8.rd.shape
      clear ro8 rr7
      go_wp2_with fail
      (go_at_call 77; ((with_reducible refine (sum_spec _ _ t (mulF m (mulF m [m - 1] (divF A B m).1) v) m _ (Ht.out.below (by (repeat' (first | (with_reducible exact Below.refl _ _) | (with_reducible assumption) | (with_reducible refine Below.alloc ?_ ?_ _) | (with_reducible refine Below.setCell ?_ ?_ _) | (with_reducible refine Below.drew ?_) | (with_reducible refine Below.via (by assumption) ?_ ?_) | go_size)))) HR7.out Hm.out Hi.out.ot (HoPv.out)).mono ?_); rintro e w9 ⟨x9, rfl, ro9, hb9⟩))
      have z9 := hb9.size; (try simp only [World.size_alloc] at z9)
      rw [HSv.out] at ro9
      have HtN := Lib.hid ro9.rd
      obtain ⟨px9, qx9, rfl⟩ := ro9.rd.shape
      clear ro9
      go_wp2_with fail
      go_roundg (meas (divF A B m).2)
      case measure => rw [← Hme.out]; exact divF_rest_length A B m Hi.out.ob.ne Hz.out
      case rel => exact ⟨B, (divF A B m).2, u, subF m s (mulF m (divF A B m).1 u), v, subF m t (mulF m (divF A B m).1 v), HB.out.below (by (repeat' (first | (with_reducible exact Below.refl _ _) | (with_reducible assumption) | (with_reducible refine Below.alloc ?_ ?_ _) | (with_reducible refine Below.setCell ?_ ?_ _) | (with_reducible refine Below.drew ?_) | (with_reducible refine Below.via (by assumption) ?_ ?_) | go_size))), HR.out.below (by (repeat' (first | (with_reducible exact Below.refl _ _) | (with_reducible assumption) | (with_reducible refine Below.alloc ?_ ?_ _) | (with_reducible refine Below.setCell ?_ ?_ _) | (with_reducible refine Below.drew ?_) | (with_reducible refine Below.via (by assumption) ?_ ?_) | go_size))), Hu.out.below (by (repeat' (first | (with_reducible exact Below.refl _ _) | (with_reducible assumption) | (with_reducible refine Below.alloc ?_ ?_ _) | (with_reducible refine Below.setCell ?_ ?_ _) | (with_reducible refine Below.drew ?_) | (with_reducible refine Below.via (by assumption) ?_ ?_) | go_size))), HsN.out.below (by (repeat' (first | (with_reducible exact Below.refl _ _) | (with_reducible assumption) | (with_reducible refine Below.alloc ?_ ?_ _) | (with_reducible refine Below.setCell ?_ ?_ _) | (with_reducible refine Below.drew ?_) | (with_reducible refine Below.via (by assumption) ?_ ?_) | go_size))), Hv.out.below (by (repeat' (first | (with_reducible exact Below.refl _ _) | (with_reducible assumption) | (with_reducible refine Below.alloc ?_ ?_ _) | (with_reducible refine Below.setCell ?_ ?_ _) | (with_reducible refine Below.drew ?_) | (with_reducible refine Below.via (by assumption) ?_ ?_) | go_size))), HtN.out.below (by (repeat' (first | (with_reducible exact Below.refl _ _) | (with_reducible assumption) | (with_reducible refine Below.alloc ?_ ?_ _) | (with_reducible refine Below.setCell ?_ ?_ _) | (with_reducible refine Below.drew ?_) | (with_reducible refine Below.via (by assumption) ?_ ?_) | go_size))), HN.out, by rw [← bezZ_step Hi.out.ob.ne Hz.out]; exact He.out, rfl, by (repeat' (first | (with_reducible exact Below.refl _ _) | (with_reducible assumption) | (with_reducible refine Below.alloc ?_ ?_ _) | (with_reducible refine Below.setCell ?_ ?_ _) | (with_reducible refine Below.drew ?_) | (with_reducible refine Below.via (by assumption) ?_ ?_) | go_size))⟩
    · have hE := He.out
      rw [bezZ_stop hz] at hE
      have hZ := HZ.out
      have eI : bzI m g h = invZ (lastZ A) m := by unfold bzI; rw [← hE]
      have eS : bzS m g h = mulF m s [invZ (lastZ A) m] := by unfold bzS; rw [eI, ← hE]
      have eT : bzT m g h = mulF m t [invZ (lastZ A) m] := by unfold bzT; rw [eI, ← hE]
      rw [← hE, eI] at hZ
      simp only at hZ
      obtain ⟨_, _, _, _, os, ot, ls, lt, hl1, _, hI, _⟩ := hZ
      have Os := Lib.hid os
      have Ot := Lib.hid ot
      obtain ⟨bA, oA, cA, hve, hbs, hcs⟩ := HA.out.open (by intro h0; rw [h0] at hl1; simp at hl1)
      simp only [Value.slice.injEq, true_and] at hve
      obtain ⟨rfl, rfl⟩ := hve
      have c0 := hcs 0 (by omega)
      have Hlz := Lib.hid (show A.getD 0 0 = lastZ A by unfold lastZ; rw [hl1])
      rw [Hlz.out] at c0
      have hov := Hi.out.oa.ov (A.length - 1)
      have hov2 : 0 ≤ lastZ A ∧ lastZ A < m := hov
      have Hoi := Lib.hid (single_ovr (m := m) hI (by omega))
      have HI2 := Lib.hid hI
      have Hcs := Lib.hid (mulF_comm (m := m) (by omega) Hoi.out os (by simp only [List.length_singleton]; omega))
      have Hct := Lib.hid (mulF_comm (m := m) (by omega) Hoi.out ot (by simp only [List.length_singleton]; omega))
      have ES := Lib.hid (eS.trans Hcs.out.symm)
      have ET := Lib.hid (eT.trans Hct.out.symm)
      clear hcs hE os ot hov hI eI eS eT Hcs Hct HZ
      rw [Nat.add_zero] at c0
      have hl1' : (A.length : Int) = 1 := by omega
      have hl0 : 0 < A.length := by omega
      have hl0' : (0 : Int) < (A.length : Int) := by omega
      generalize lastZ A = lz at *
      go_wp2_with fail
      (go_at_call 123; ((with_reducible refine (zero_spec _ B _ HB.out (by omega)).mono ?_); rintro e w' ⟨rfl, rfl⟩))
      rw [hz]
      clear hz
      go_wp2_with fail
      (go_at_call 127; ((with_reducible refine (inverse_spec lz m _ (by omega) (by omega) (by omega) (by omega)).mono ?_); rintro e w' ⟨rfl, rfl⟩))
      generalize invZ lz m = iz at *
      have LM := Lib.hid (OwI.rd (OwI.litZ (w := wr) (B := 0) (s := wr.heap.size) (z := iz) (by simp) (by omega)))
      go_wp2_with fail
      (go_at_call 67; ((with_reducible refine (mul_spec2 _ _ [iz] s m _ LM.out (Hs.out.below (by (repeat' (first | (with_reducible exact Below.refl _ _) | (with_reducible assumption) | (with_reducible refine Below.alloc ?_ ?_ _) | (with_reducible refine Below.setCell ?_ ?_ _) | (with_reducible refine Below.drew ?_) | (with_reducible refine Below.via (by assumption) ?_ ?_) | go_size)))) Hm.out Hoi.out Os.out).mono ?_); rintro e w2 ⟨x2, rfl, rr2, hb2⟩))
      have z2 := hb2.size; (try simp only [World.size_alloc] at z2)
      obtain ⟨px2, qx2, rfl⟩ := rr2.shape
      go_wp2_with fail
      (go_at_call 71; ((with_reducible refine (mods_mul_spec _ [iz] s m _ rr2 Hm.out Hoi.out Os.out (by simp only [List.length_singleton]; omega)).mono ?_); rintro e w3 ⟨x3, rfl, ro3, hb3⟩))
      have z3 := hb3.size; (try simp only [World.size_alloc] at z3)
      have HS3 := Lib.hid ro3
      obtain ⟨px3, qx3, rfl⟩ := ro3.rd.shape
      clear ro3 rr2
      go_wp2_with fail
      (go_at_call 67; ((with_reducible refine (mul_spec2 _ _ [iz] t m _ (LM.out.below (by (repeat' (first | (with_reducible exact Below.refl _ _) | (with_reducible assumption) | (with_reducible refine Below.alloc ?_ ?_ _) | (with_reducible refine Below.setCell ?_ ?_ _) | (with_reducible refine Below.drew ?_) | (with_reducible refine Below.via (by assumption) ?_ ?_) | go_size)))) (Ht.out.below (by (repeat' (first | (with_reducible exact Below.refl _ _) | (with_reducible assumption) | (with_reducible refine Below.alloc ?_ ?_ _) | (with_reducible refine Below.setCell ?_ ?_ _) | (with_reducible refine Below.drew ?_) | (with_reducible refine Below.via (by assumption) ?_ ?_) | go_size)))) Hm.out Hoi.out Ot.out).mono ?_); rintro e w4 ⟨x4, rfl, rr4, hb4⟩))
      have z4 := hb4.size; (try simp only [World.size_alloc] at z4)
      obtain ⟨px4, qx4, rfl⟩ := rr4.shape
      go_wp2_with fail
      (go_at_call 71; ((with_reducible refine (mods_mul_spec _ [iz] t m _ rr4 Hm.out Hoi.out Ot.out (by simp only [List.length_singleton]; omega)).mono ?_); rintro e w5 ⟨x5, rfl, ro5, hb5⟩))
      have z5 := hb5.size; (try simp only [World.size_alloc] at z5)
      have HS5 := Lib.hid ro5
      obtain ⟨px5, qx5, rfl⟩ := ro5.rd.shape
      clear ro5 rr4
      go_wp2_with fail
      go_ret2
      rw [ES.out, ET.out]
      exact ⟨_, _, rfl, (HS3.out.below (by (repeat' (first | (with_reducible exact Below.refl _ _) | (with_reducible assumption) | (with_reducible refine Below.alloc ?_ ?_ _) | (with_reducible refine Below.setCell ?_ ?_ _) | (with_reducible refine Below.drew ?_) | (with_reducible refine Below.via (by assumption) ?_ ?_) | go_size)))).mono (by omega), HS5.out.mono (by omega), by (repeat' (first | (with_reducible exact Below.refl _ _) | (with_reducible assumption) | (with_reducible refine Below.alloc ?_ ?_ _) | (with_reducible refine Below.setCell ?_ ?_ _) | (with_reducible refine Below.drew ?_) | (with_reducible refine Below.via (by assumption) ?_ ?_) | go_size))⟩

end Go.Proofs.Ytlnjkjogedbhfaa
