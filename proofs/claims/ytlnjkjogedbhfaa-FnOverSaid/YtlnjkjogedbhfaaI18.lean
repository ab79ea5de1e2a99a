/- Powers over a prime: the reference's walk. Conditions: lengths of at most 2^40. -/
import Derived.Test.YtlnjkjogedbhfaaI17
import Derived.Test.YtlnjkjogedbhfaaI14
import Derived.Deep.RegionHeld3
namespace Go.Proofs.Ytlnjkjogedbhfaa
open Go Go.RowKit
set_option linter.unusedSimpArgs false
set_option linter.unusedVariables false

theorem divide_spec2 (va vb : Value) (a b : List Int) (m : Int) (w : World) (ha : RdI w va a) (hb : RdI w vb b) (hm : primeB m = true) (hoa : Ovr m a) (hob : Ovr m b) (hz : zeroB b = false) : Calls Try.prog 76 #[va, vb, .int .i64 m] w (RL2 (divF a b m) w) := by
  have h := divide_spec va vb a b m w ha hb hm hoa.ov hob.ov hoa.ne hob.ne hoa.len hob.len
  rw [divS_ovr hm hoa hob hz] at h
  exact h
theorem mods_mul_spec (v : Value) (a b : List Int) (m : Int) (w : World) (hv : RdI w v (mulZ a b)) (hm : primeB m = true) (hoa : Ovr m a) (hob : Ovr m b) (hl : a.length + b.length ≤ 101) : Calls Try.prog 71 #[v, .int .i64 m] w (RL (mulF m a b) w) := by
  have hmp := primeB_bd hm
  have hbd : BdI 1000000000000000 (mulZ a b) := fun i => by have := mulZ_bd (hoa.ov.bd (M := 1000) (by omega)) (hob.ov.bd (M := 1000) (by omega)) hoa.len i; constructor <;> omega
  have h := mods_spec v (mulZ a b) m w hv (by rw [mulZ_length]; omega) hbd (by omega) (by omega)
  rw [mulF_spec hoa.ne hob.ne] at h
  exact h
theorem mul_spec2 (va vb : Value) (a b : List Int) (m : Int) (w : World) (ha : RdI w va a) (hb : RdI w vb b) (hm : primeB m = true) (hoa : Ovr m a) (hob : Ovr m b) : Calls Try.prog 67 #[va, vb] w fun e w' => ∃ v, e = .returned v ∧ RdI w' v (mulZ a b) ∧ Below w.heap.size w w' := by
  have hmp := primeB_bd hm
  have hba : BdI 1000000 a := hoa.ov.bd (by omega)
  have hbb : BdI 1000000 b := hob.ov.bd (by omega)
  refine (mul_spec va vb a b w ha hb (List.length_pos_iff.2 hoa.ne) (List.length_pos_iff.2 hob.ne) hoa.len hob.len hba hbb).mono ?_
  rintro e w' ⟨v, rfl, h1, h2⟩
  exact ⟨v, rfl, h1.own.rd, h2⟩

set_option maxRecDepth 100000 in
set_option maxHeartbeats 4000000 in
theorem PowerOver_spec (va vb : Value) (base by' : List Int) (p m : Int) (w : World) (ha : RdI w va base) (hb : RdI w vb by') (hla : base.length ≤ 1099511627776) (hlb : by'.length ≤ 1099511627776) : Calls Try.prog 38 #[.agg #[va], .int .i64 p, .agg #[vb], .int .i64 m] w (RWB (powR base p by' m) w) := by
  have Ha := Lib.hid ha
  have Hb := Lib.hid hb
  obtain ⟨aoa, ca, rfl⟩ := ha.shape
  obtain ⟨aob, cb, rfl⟩ := hb.shape
  clear ha hb
  cases hqa : overB m base
  · have Ho := Lib.hid (show powR base p by' m = ([], false) by rw [powR, if_neg (by simp [powOk, hqa]; try (intro _; omega))])
    go_enter Try.func38, Try.ntmps38
    go_wp2_with fail
    (go_at_call 68; ((with_reducible refine (over_spec _ _ base m _ (by go_simp) (Ha.out.below (by (repeat' (first | (with_reducible exact Below.refl _ _) | (with_reducible assumption) | (with_reducible refine Below.alloc ?_ ?_ _) | (with_reducible refine Below.setCell ?_ ?_ _) | (with_reducible refine Below.drew ?_) | (with_reducible refine Below.via (by assumption) ?_ ?_) | go_size)))) hla).mono ?_); rintro e w' ⟨rfl, rfl⟩))
    go_wp2_with fail
    (try simp only [Exit.inBlock, Exit.then]); refine bodyPost_ret (by simp [results, Try.results38, go_sem, *]; try rfl) rfl ?_
    rw [Ho.out]
    exact ⟨_, rfl, OwI.nil _ _, by (repeat' (first | (with_reducible exact Below.refl _ _) | (with_reducible assumption) | (with_reducible refine Below.alloc ?_ ?_ _) | (with_reducible refine Below.setCell ?_ ?_ _) | (with_reducible refine Below.drew ?_) | (with_reducible refine Below.via (by assumption) ?_ ?_) | go_size))⟩
  cases hqb : overB m by'
  · have Ho := Lib.hid (show powR base p by' m = ([], false) by rw [powR, if_neg (by simp [powOk, hqa, hqb]; try (intro _; omega))])
    go_enter Try.func38, Try.ntmps38
    go_wp2_with fail
    (go_at_call 68; ((with_reducible refine (over_spec _ _ base m _ (by go_simp) (Ha.out.below (by (repeat' (first | (with_reducible exact Below.refl _ _) | (with_reducible assumption) | (with_reducible refine Below.alloc ?_ ?_ _) | (with_reducible refine Below.setCell ?_ ?_ _) | (with_reducible refine Below.drew ?_) | (with_reducible refine Below.via (by assumption) ?_ ?_) | go_size)))) hla).mono ?_); rintro e w' ⟨rfl, rfl⟩))
    go_wp2_with fail
    (go_at_call 68; ((with_reducible refine (over_spec _ _ by' m _ (by go_simp) (Hb.out.below (by (repeat' (first | (with_reducible exact Below.refl _ _) | (with_reducible assumption) | (with_reducible refine Below.alloc ?_ ?_ _) | (with_reducible refine Below.setCell ?_ ?_ _) | (with_reducible refine Below.drew ?_) | (with_reducible refine Below.via (by assumption) ?_ ?_) | go_size)))) hlb).mono ?_); rintro e w' ⟨rfl, rfl⟩))
    go_wp2_with fail
    (try simp only [Exit.inBlock, Exit.then]); refine bodyPost_ret (by simp [results, Try.results38, go_sem, *]; try rfl) rfl ?_
    rw [Ho.out]
    exact ⟨_, rfl, OwI.nil _ _, by (repeat' (first | (with_reducible exact Below.refl _ _) | (with_reducible assumption) | (with_reducible refine Below.alloc ?_ ?_ _) | (with_reducible refine Below.setCell ?_ ?_ _) | (with_reducible refine Below.drew ?_) | (with_reducible refine Below.via (by assumption) ?_ ?_) | go_size))⟩
  by_cases hlen : (by'.length : Int) < 2
  · have Ho := Lib.hid (show powR base p by' m = ([], false) by rw [powR, if_neg (by simp [powOk, hqa, hqb]; try (intro _; omega))])
    go_enter Try.func38, Try.ntmps38
    go_wp2_with fail
    (go_at_call 68; ((with_reducible refine (over_spec _ _ base m _ (by go_simp) (Ha.out.below (by (repeat' (first | (with_reducible exact Below.refl _ _) | (with_reducible assumption) | (with_reducible refine Below.alloc ?_ ?_ _) | (with_reducible refine Below.setCell ?_ ?_ _) | (with_reducible refine Below.drew ?_) | (with_reducible refine Below.via (by assumption) ?_ ?_) | go_size)))) hla).mono ?_); rintro e w' ⟨rfl, rfl⟩))
    go_wp2_with fail
    (go_at_call 68; ((with_reducible refine (over_spec _ _ by' m _ (by go_simp) (Hb.out.below (by (repeat' (first | (with_reducible exact Below.refl _ _) | (with_reducible assumption) | (with_reducible refine Below.alloc ?_ ?_ _) | (with_reducible refine Below.setCell ?_ ?_ _) | (with_reducible refine Below.drew ?_) | (with_reducible refine Below.via (by assumption) ?_ ?_) | go_size)))) hlb).mono ?_); rintro e w' ⟨rfl, rfl⟩))
    go_wp2_with fail
    (try simp only [Exit.inBlock, Exit.then]); refine bodyPost_ret (by simp [results, Try.results38, go_sem, *]; try rfl) rfl ?_
    rw [Ho.out]
    exact ⟨_, rfl, OwI.nil _ _, by (repeat' (first | (with_reducible exact Below.refl _ _) | (with_reducible assumption) | (with_reducible refine Below.alloc ?_ ?_ _) | (with_reducible refine Below.setCell ?_ ?_ _) | (with_reducible refine Below.drew ?_) | (with_reducible refine Below.via (by assumption) ?_ ?_) | go_size))⟩
  cases hin : inB 0 p 1000000
  · have Ho := Lib.hid (show powR base p by' m = ([], false) by rw [powR, if_neg (by simp [powOk, hqa, hqb, hin]; try (intro _; omega))])
    go_enter Try.func38, Try.ntmps38
    go_wp2_with fail
    (go_at_call 68; ((with_reducible refine (over_spec _ _ base m _ (by go_simp) (Ha.out.below (by (repeat' (first | (with_reducible exact Below.refl _ _) | (with_reducible assumption) | (with_reducible refine Below.alloc ?_ ?_ _) | (with_reducible refine Below.setCell ?_ ?_ _) | (with_reducible refine Below.drew ?_) | (with_reducible refine Below.via (by assumption) ?_ ?_) | go_size)))) hla).mono ?_); rintro e w' ⟨rfl, rfl⟩))
    go_wp2_with fail
    (go_at_call 68; ((with_reducible refine (over_spec _ _ by' m _ (by go_simp) (Hb.out.below (by (repeat' (first | (with_reducible exact Below.refl _ _) | (with_reducible assumption) | (with_reducible refine Below.alloc ?_ ?_ _) | (with_reducible refine Below.setCell ?_ ?_ _) | (with_reducible refine Below.drew ?_) | (with_reducible refine Below.via (by assumption) ?_ ?_) | go_size)))) hlb).mono ?_); rintro e w' ⟨rfl, rfl⟩))
    go_wp2_with fail
    (go_at_call 109; ((with_reducible refine (in_spec _ _ _ _).mono ?_); rintro e w' ⟨rfl, rfl⟩))
    go_wp2_with fail
    (try simp only [Exit.inBlock, Exit.then]); refine bodyPost_ret (by simp [results, Try.results38, go_sem, *]; try rfl) rfl ?_
    rw [Ho.out]
    exact ⟨_, rfl, OwI.nil _ _, by (repeat' (first | (with_reducible exact Below.refl _ _) | (with_reducible assumption) | (with_reducible refine Below.alloc ?_ ?_ _) | (with_reducible refine Below.setCell ?_ ?_ _) | (with_reducible refine Below.drew ?_) | (with_reducible refine Below.via (by assumption) ?_ ?_) | go_size))⟩
  have hok : powOk base p by' m = true := by simp [powOk, hqa, hqb, hin]; omega
  have Ho := Lib.hid (show powR base p by' m = (powZ m by' p.toNat [1] (remF m by' base), true) by rw [powR, if_pos hok])
  have Hgv := Lib.hid (powR_give hok)
  obtain ⟨hm, oa, ob, _, hp0, hp1⟩ := powOk_facts hok
  have hmp := primeB_bd hm
  have hl17 := ob.len
  have Hm := Lib.hid hm
  have Hoa := Lib.hid oa
  have Hob := Lib.hid ob
  have Hz := Lib.hid (long_zero (show 2 ≤ by'.length by omega))
  have H17 := Lib.hid (powR_17 hok)
  clear hok hm oa ob
  go_enter Try.func38, Try.ntmps38
  go_wp2_with fail
  (go_at_call 68; ((with_reducible refine (over_spec _ _ base m _ (by go_simp) (Ha.out.below (by (repeat' (first | (with_reducible exact Below.refl _ _) | (with_reducible assumption) | (with_reducible refine Below.alloc ?_ ?_ _) | (with_reducible refine Below.setCell ?_ ?_ _) | (with_reducible refine Below.drew ?_) | (with_reducible refine Below.via (by assumption) ?_ ?_) | go_size)))) hla).mono ?_); rintro e w' ⟨rfl, rfl⟩))
  go_wp2_with fail
  (go_at_call 68; ((with_reducible refine (over_spec _ _ by' m _ (by go_simp) (Hb.out.below (by (repeat' (first | (with_reducible exact Below.refl _ _) | (with_reducible assumption) | (with_reducible refine Below.alloc ?_ ?_ _) | (with_reducible refine Below.setCell ?_ ?_ _) | (with_reducible refine Below.drew ?_) | (with_reducible refine Below.via (by assumption) ?_ ?_) | go_size)))) hlb).mono ?_); rintro e w' ⟨rfl, rfl⟩))
  go_wp2_with fail
  (go_at_call 109; ((with_reducible refine (in_spec _ _ _ _).mono ?_); rintro e w' ⟨rfl, rfl⟩))
  go_wp2_with fail
  clear hqa hqb hin
  (go_at_call 76; ((with_reducible refine (divide_spec2 _ _ base by' m _ (Ha.out.below (by (repeat' (first | (with_reducible exact Below.refl _ _) | (with_reducible assumption) | (with_reducible refine Below.alloc ?_ ?_ _) | (with_reducible refine Below.setCell ?_ ?_ _) | (with_reducible refine Below.drew ?_) | (with_reducible refine Below.via (by assumption) ?_ ?_) | go_size)))) (Hb.out.below (by (repeat' (first | (with_reducible exact Below.refl _ _) | (with_reducible assumption) | (with_reducible refine Below.alloc ?_ ?_ _) | (with_reducible refine Below.setCell ?_ ?_ _) | (with_reducible refine Below.drew ?_) | (with_reducible refine Below.via (by assumption) ?_ ?_) | go_size)))) Hm.out Hoa.out.ovr Hob.out.ovr Hz.out).mono ?_); rintro e w1 ⟨v1, v2, rfl, ho1, ho2, hb1⟩))
  obtain ⟨ch1, fh1⟩ := bcell hb1
  have z1 := hb1.size
  simp only [World.size_alloc] at z1
  have l1 : w.heap.size + 1 < w1.heap.size := by omega
  have l2 : w.heap.size + 1 + 1 < w1.heap.size := by omega
  have X1 := Lib.hid (show w1.cell? ⟨w.heap.size + 1, 0, none⟩ = some (.slice aob by'.length cb) by go_simp)
  have X2 := Lib.hid (show w1.cell? ⟨w.heap.size + 1 + 1, 0, none⟩ = some (.slice none 0 0) by go_simp)
  have Y2 := Lib.hid (show w1.frozen? ⟨w.heap.size + 1 + 1, 0, none⟩ = false by go_simp)
  have B1 := Lib.hid (show Below w.heap.size w w1 by (repeat' (first | (with_reducible exact Below.refl _ _) | (with_reducible assumption) | (with_reducible refine Below.alloc ?_ ?_ _) | (with_reducible refine Below.setCell ?_ ?_ _) | (with_reducible refine Below.drew ?_) | (with_reducible refine Below.via (by assumption) ?_ ?_) | go_size)))
  have R2 := Lib.hid (show RdI w1 v2 (remF m by' base) from ho2.rd)
  have R0 := Lib.hid (show RdI w1 (.slice (some ⟨w.heap.size + 3, 0, none⟩) 1 1) [1] from RdI.below (OwI.rd (OwI.litZ (B := 0) (z := 1) (by simp) (by omega))) hb1)
  obtain ⟨ao1, c1, rfl⟩ := ho1.rd.shape
  obtain ⟨ao2, c2, rfl⟩ := ho2.rd.shape
  clear ch1 fh1 ho1 ho2 hb1
  go_wp2_with fail
  go_loopw [1, 10, 12] (fun pv ov sv wr => ∃ (k : Nat) (o s : List Int), pv = .int .i64 k ∧ (k : Int) ≤ 1000000 ∧ RdI wr ov o ∧ RdI wr sv s ∧ Ov17 m o ∧ Ov17 m s ∧ powZ m by' k o s = powZ m by' p.toNat [1] (remF m by' base) ∧ Below w1.heap.size w1 wr) (fun pv _ _ _ => (intOf pv).toNat)
  case atStart =>
    refine ⟨p.toNat, [1], remF m by' base, by rw [show (p.toNat : Int) = p by omega], by omega, R0.out, R2.out, one17 Hm.out, rem17 Hm.out Hoa.out.ovr Hob.out Hz.out, rfl, Below.refl _ _⟩
  case round =>
    obtain ⟨k, o, s, rfl, hk, hro, hrs, h17o, h17s, hpw, hbel⟩ := hrel
    have Ro := Lib.hid hro
    have Rs := Lib.hid hrs
    have Oo := Lib.hid h17o
    have Os := Lib.hid h17s
    have Hpw := Lib.hid hpw
    have Hbel := Lib.hid hbel
    obtain ⟨aoo, co, rfl⟩ := hro.shape
    obtain ⟨aos, cs, rfl⟩ := hrs.shape
    have x1 := (hbel.cell (p := ⟨w.heap.size + 1, 0, none⟩) l1).trans X1.out
    have zb := hbel.size
    have zb1 : w.heap.size + 1 < wr.heap.size := by omega
    have bw := (show Below w.heap.size w wr from B1.out.trans (hbel.mono B1.out.size))
    have br := Below.refl wr.heap.size wr
    clear hro hrs h17o h17s hpw hbel
    by_cases hk0 : k = 0
    · subst hk0
      have x2 := (Hbel.out.cell (p := ⟨w.heap.size + 1 + 1, 0, none⟩) l2).trans X2.out
      have y2 := (Hbel.out.frozen (p := ⟨w.heap.size + 1 + 1, 0, none⟩) l2).trans Y2.out
      have Heq := Lib.hid (show o = powZ m by' p.toNat [1] (remF m by' base) by have h := Hpw.out; rw [powZ_zero] at h; exact h)
      have lo := Oo.out.len
      go_wp2_with fail
      (go_at_call 66; ((with_reducible refine (give_spec _ o _ Ro.out (by omega)).mono ?_); rintro e w2 ⟨v2', rfl, ho2, hb2⟩))
      rw [Heq.out, Hgv.out] at ho2
      rw [Heq.out, Hgv.out]
      obtain ⟨ch2, fh2⟩ := bcell hb2
      have z2 := hb2.size
      have q2 : w.heap.size + 1 + 1 < wr.heap.size := by omega
      have q3 : w.heap.size + 1 + 1 < w2.heap.size := by omega
      have Ho2 := Lib.hid ho2
      obtain ⟨ao3, c3, rfl⟩ := ho2.rd.shape
      clear ho2
      go_wp2_with fail
      (try simp only [Exit.inBlock, Exit.then]); refine bodyPost_ret (by simp [results, Try.results38, go_sem, *]; try rfl) rfl ?_
      rw [Ho.out]
      exact ⟨_, rfl, OwI.mono (B := wr.heap.size) (OwI.setCell Ho2.out (by show w.heap.size + 1 + 1 < _; omega) _) (by omega), by (repeat' (first | (with_reducible exact Below.refl _ _) | (with_reducible assumption) | (with_reducible refine Below.alloc ?_ ?_ _) | (with_reducible refine Below.setCell ?_ ?_ _) | (with_reducible refine Below.drew ?_) | (with_reducible refine Below.via (by assumption) ?_ ?_) | go_size))⟩
    · have hk1 : (0 : Int) < (k : Int) := by omega
      by_cases hodd : k % 2 = 1
      · have hodd' : (k : Int) % 2 = 1 := by omega
        have Hodd := Lib.hid hodd
        clear hodd
        go_wp2_with fail
        go_region_held3 (fun w' => w'.cell? ⟨w.heap.size + 1, 0, none⟩ = some (.slice aob by'.length cb))
          (((try dsimp only); (first | assumption | (rw [d8.cell (by first | omega | (simp <;> omega))]; assumption) | (rw [c8.cell (by first | omega | (simp <;> omega))]; assumption) | (rw [b8.cell (by first | omega | (simp <;> omega))]; assumption) | (go_keep; done))))
          (first
            | (go_at_call 67; ((with_reducible refine (mul_spec2 _ _ o s m _ (Ro.out.below (by (repeat' (first | (with_reducible exact Below.refl _ _) | (with_reducible assumption) | (with_reducible refine Below.alloc ?_ ?_ _) | (with_reducible refine Below.setCell ?_ ?_ _) | (with_reducible refine Below.drew ?_) | (with_reducible refine Below.via (by assumption) ?_ ?_) | go_size)))) (Rs.out.below (by (repeat' (first | (with_reducible exact Below.refl _ _) | (with_reducible assumption) | (with_reducible refine Below.alloc ?_ ?_ _) | (with_reducible refine Below.setCell ?_ ?_ _) | (with_reducible refine Below.drew ?_) | (with_reducible refine Below.via (by assumption) ?_ ?_) | go_size)))) Hm.out Oo.out.ovr Os.out.ovr).mono ?_); rintro e wb8 ⟨vb8, rfl, rb8, b8⟩; have zb8 := b8.size; (try simp only [World.size_alloc, World.size_drew, World.size_setCell] at zb8); obtain ⟨pb8, qb8, rfl⟩ := rb8.shape))
            | (go_at_call 71; ((with_reducible refine (mods_mul_spec _ o s m _ (rb8.below (by (repeat' (first | (with_reducible exact Below.refl _ _) | (with_reducible assumption) | (with_reducible refine Below.alloc ?_ ?_ _) | (with_reducible refine Below.setCell ?_ ?_ _) | (with_reducible refine Below.drew ?_) | (with_reducible refine Below.via (by assumption) ?_ ?_) | go_size)))) Hm.out Oo.out.ovr Os.out.ovr (by have := Oo.out.len; have := Os.out.len; omega)).mono ?_); rintro e wc8 ⟨vc8, rfl, rc8, c8⟩; have zc8 := c8.size; (try simp only [World.size_alloc, World.size_drew, World.size_setCell] at zc8); obtain ⟨pc8, qc8, rfl⟩ := rc8.rd.shape))
            | (go_at_call 76; ((with_reducible refine (divide_spec2 _ _ (mulF m o s) by' m _ (rc8.rd.below (by (repeat' (first | (with_reducible exact Below.refl _ _) | (with_reducible assumption) | (with_reducible refine Below.alloc ?_ ?_ _) | (with_reducible refine Below.setCell ?_ ?_ _) | (with_reducible refine Below.drew ?_) | (with_reducible refine Below.via (by assumption) ?_ ?_) | go_size)))) (Hb.out.below (by (repeat' (first | (with_reducible exact Below.refl _ _) | (with_reducible assumption) | (with_reducible refine Below.alloc ?_ ?_ _) | (with_reducible refine Below.setCell ?_ ?_ _) | (with_reducible refine Below.drew ?_) | (with_reducible refine Below.via (by assumption) ?_ ?_) | go_size)))) Hm.out (mul17 Hm.out Oo.out Os.out) Hob.out.ovr Hz.out).mono ?_); rintro e wd8 ⟨vd8, ve8, rfl, rd8, re8, d8⟩; have zd8 := d8.size; (try simp only [World.size_alloc, World.size_drew, World.size_setCell] at zd8); obtain ⟨pd8, qd8, rfl⟩ := rd8.rd.shape; obtain ⟨pe8, qe8, rfl⟩ := re8.rd.shape)))
        have Re8 := Lib.hid (show RdI wd8 _ (remF m by' (mulF m o s)) from re8.rd)
        have Oe8 := Lib.hid (rem17 Hm.out (mul17 Hm.out Oo.out Os.out) Hob.out Hz.out)
        go_wp2_with fail
        go_region_held3 (fun w' => w'.cell? ⟨w.heap.size + 1, 0, none⟩ = some (.slice aob by'.length cb))
          (((try dsimp only); (first | assumption | (rw [d9.cell (by first | omega | (simp <;> omega))]; assumption) | (rw [c9.cell (by first | omega | (simp <;> omega))]; assumption) | (rw [b9.cell (by first | omega | (simp <;> omega))]; assumption) | (go_keep; done))))
          (first
            | (go_at_call 67; ((with_reducible refine (mul_spec2 _ _ s s m _ (Rs.out.below (by (repeat' (first | (with_reducible exact Below.refl _ _) | (with_reducible assumption) | (with_reducible refine Below.alloc ?_ ?_ _) | (with_reducible refine Below.setCell ?_ ?_ _) | (with_reducible refine Below.drew ?_) | (with_reducible refine Below.via (by assumption) ?_ ?_) | go_size)))) (Rs.out.below (by (repeat' (first | (with_reducible exact Below.refl _ _) | (with_reducible assumption) | (with_reducible refine Below.alloc ?_ ?_ _) | (with_reducible refine Below.setCell ?_ ?_ _) | (with_reducible refine Below.drew ?_) | (with_reducible refine Below.via (by assumption) ?_ ?_) | go_size)))) Hm.out Os.out.ovr Os.out.ovr).mono ?_); rintro e wb9 ⟨vb9, rfl, rb9, b9⟩; have zb9 := b9.size; (try simp only [World.size_alloc, World.size_drew, World.size_setCell] at zb9); obtain ⟨pb9, qb9, rfl⟩ := rb9.shape))
            | (go_at_call 71; ((with_reducible refine (mods_mul_spec _ s s m _ (rb9.below (by (repeat' (first | (with_reducible exact Below.refl _ _) | (with_reducible assumption) | (with_reducible refine Below.alloc ?_ ?_ _) | (with_reducible refine Below.setCell ?_ ?_ _) | (with_reducible refine Below.drew ?_) | (with_reducible refine Below.via (by assumption) ?_ ?_) | go_size)))) Hm.out Os.out.ovr Os.out.ovr (by have := Os.out.len; have := Os.out.len; omega)).mono ?_); rintro e wc9 ⟨vc9, rfl, rc9, c9⟩; have zc9 := c9.size; (try simp only [World.size_alloc, World.size_drew, World.size_setCell] at zc9); obtain ⟨pc9, qc9, rfl⟩ := rc9.rd.shape))
            | (go_at_call 76; ((with_reducible refine (divide_spec2 _ _ (mulF m s s) by' m _ (rc9.rd.below (by (repeat' (first | (with_reducible exact Below.refl _ _) | (with_reducible assumption) | (with_reducible refine Below.alloc ?_ ?_ _) | (with_reducible refine Below.setCell ?_ ?_ _) | (with_reducible refine Below.drew ?_) | (with_reducible refine Below.via (by assumption) ?_ ?_) | go_size)))) (Hb.out.below (by (repeat' (first | (with_reducible exact Below.refl _ _) | (with_reducible assumption) | (with_reducible refine Below.alloc ?_ ?_ _) | (with_reducible refine Below.setCell ?_ ?_ _) | (with_reducible refine Below.drew ?_) | (with_reducible refine Below.via (by assumption) ?_ ?_) | go_size)))) Hm.out (mul17 Hm.out Os.out Os.out) Hob.out.ovr Hz.out).mono ?_); rintro e wd9 ⟨vd9, ve9, rfl, rd9, re9, d9⟩; have zd9 := d9.size; (try simp only [World.size_alloc, World.size_drew, World.size_setCell] at zd9); obtain ⟨pd9, qd9, rfl⟩ := rd9.rd.shape; obtain ⟨pe9, qe9, rfl⟩ := re9.rd.shape)))
        have Re9 := Lib.hid (show RdI wd9 _ (remF m by' (mulF m s s)) from re9.rd)
        have Oe9 := Lib.hid (rem17 Hm.out (mul17 Hm.out Os.out Os.out) Hob.out Hz.out)
        have Bf := Lib.hid (show Below wr.heap.size wr wd9 by (repeat' (first | (with_reducible exact Below.refl _ _) | (with_reducible assumption) | (with_reducible refine Below.alloc ?_ ?_ _) | (with_reducible refine Below.setCell ?_ ?_ _) | (with_reducible refine Below.drew ?_) | (with_reducible refine Below.via (by assumption) ?_ ?_) | go_size)))
        have Re8' := Lib.hid (show RdI wd9 _ (remF m by' (mulF m o s)) from Re8.out.below (by (repeat' (first | (with_reducible exact Below.refl _ _) | (with_reducible assumption) | (with_reducible refine Below.alloc ?_ ?_ _) | (with_reducible refine Below.setCell ?_ ?_ _) | (with_reducible refine Below.drew ?_) | (with_reducible refine Below.via (by assumption) ?_ ?_) | go_size))))
        clear b8 c8 d8 b9 c9 d9 rb8 rc8 rd8 re8 rb9 rc9 rd9 re9
        go_wp2_with fail
        go_roundw
        case rel => exact ⟨k / 2, _, _, by go_num, by omega, Re8'.out, Re9.out, Oe8.out, Oe9.out, by rw [← powZ_odd Hodd.out]; exact Hpw.out, Hbel.out.trans (Bf.out.mono Hbel.out.size)⟩
        case measure => simp [intOf] <;> omega
      · have hodd' : ¬ ((k : Int) % 2 = 1) := by omega
        have Hk0 := Lib.hid hk0
        have Hodd := Lib.hid hodd
        clear hodd hk0
        go_wp2_with fail
        go_region_held3 (fun w' => w'.cell? ⟨w.heap.size + 1, 0, none⟩ = some (.slice aob by'.length cb))
          (((try dsimp only); (first | assumption | (rw [d9.cell (by first | omega | (simp <;> omega))]; assumption) | (rw [c9.cell (by first | omega | (simp <;> omega))]; assumption) | (rw [b9.cell (by first | omega | (simp <;> omega))]; assumption) | (go_keep; done))))
          (first
            | (go_at_call 67; ((with_reducible refine (mul_spec2 _ _ s s m _ (Rs.out.below (by (repeat' (first | (with_reducible exact Below.refl _ _) | (with_reducible assumption) | (with_reducible refine Below.alloc ?_ ?_ _) | (with_reducible refine Below.setCell ?_ ?_ _) | (with_reducible refine Below.drew ?_) | (with_reducible refine Below.via (by assumption) ?_ ?_) | go_size)))) (Rs.out.below (by (repeat' (first | (with_reducible exact Below.refl _ _) | (with_reducible assumption) | (with_reducible refine Below.alloc ?_ ?_ _) | (with_reducible refine Below.setCell ?_ ?_ _) | (with_reducible refine Below.drew ?_) | (with_reducible refine Below.via (by assumption) ?_ ?_) | go_size)))) Hm.out Os.out.ovr Os.out.ovr).mono ?_); rintro e wb9 ⟨vb9, rfl, rb9, b9⟩; have zb9 := b9.size; (try simp only [World.size_alloc, World.size_drew, World.size_setCell] at zb9); obtain ⟨pb9, qb9, rfl⟩ := rb9.shape))
            | (go_at_call 71; ((with_reducible refine (mods_mul_spec _ s s m _ (rb9.below (by (repeat' (first | (with_reducible exact Below.refl _ _) | (with_reducible assumption) | (with_reducible refine Below.alloc ?_ ?_ _) | (with_reducible refine Below.setCell ?_ ?_ _) | (with_reducible refine Below.drew ?_) | (with_reducible refine Below.via (by assumption) ?_ ?_) | go_size)))) Hm.out Os.out.ovr Os.out.ovr (by have := Os.out.len; have := Os.out.len; omega)).mono ?_); rintro e wc9 ⟨vc9, rfl, rc9, c9⟩; have zc9 := c9.size; (try simp only [World.size_alloc, World.size_drew, World.size_setCell] at zc9); obtain ⟨pc9, qc9, rfl⟩ := rc9.rd.shape))
            | (go_at_call 76; ((with_reducible refine (divide_spec2 _ _ (mulF m s s) by' m _ (rc9.rd.below (by (repeat' (first | (with_reducible exact Below.refl _ _) | (with_reducible assumption) | (with_reducible refine Below.alloc ?_ ?_ _) | (with_reducible refine Below.setCell ?_ ?_ _) | (with_reducible refine Below.drew ?_) | (with_reducible refine Below.via (by assumption) ?_ ?_) | go_size)))) (Hb.out.below (by (repeat' (first | (with_reducible exact Below.refl _ _) | (with_reducible assumption) | (with_reducible refine Below.alloc ?_ ?_ _) | (with_reducible refine Below.setCell ?_ ?_ _) | (with_reducible refine Below.drew ?_) | (with_reducible refine Below.via (by assumption) ?_ ?_) | go_size)))) Hm.out (mul17 Hm.out Os.out Os.out) Hob.out.ovr Hz.out).mono ?_); rintro e wd9 ⟨vd9, ve9, rfl, rd9, re9, d9⟩; have zd9 := d9.size; (try simp only [World.size_alloc, World.size_drew, World.size_setCell] at zd9); obtain ⟨pd9, qd9, rfl⟩ := rd9.rd.shape; obtain ⟨pe9, qe9, rfl⟩ := re9.rd.shape)))
        have Re9 := Lib.hid (show RdI wd9 _ (remF m by' (mulF m s s)) from re9.rd)
        have Oe9 := Lib.hid (rem17 Hm.out (mul17 Hm.out Os.out Os.out) Hob.out Hz.out)
        have Bf := Lib.hid (show Below wr.heap.size wr wd9 by (repeat' (first | (with_reducible exact Below.refl _ _) | (with_reducible assumption) | (with_reducible refine Below.alloc ?_ ?_ _) | (with_reducible refine Below.setCell ?_ ?_ _) | (with_reducible refine Below.drew ?_) | (with_reducible refine Below.via (by assumption) ?_ ?_) | go_size)))
        have Ro' := Lib.hid (show RdI wd9 _ o from Ro.out.below (by (repeat' (first | (with_reducible exact Below.refl _ _) | (with_reducible assumption) | (with_reducible refine Below.alloc ?_ ?_ _) | (with_reducible refine Below.setCell ?_ ?_ _) | (with_reducible refine Below.drew ?_) | (with_reducible refine Below.via (by assumption) ?_ ?_) | go_size))))
        clear b9 c9 d9 rb9 rc9 rd9 re9
        go_wp2_with fail
        go_roundw
        case rel => exact ⟨k / 2, _, _, by go_num, by omega, Ro'.out, Re9.out, Oo.out, Oe9.out, by rw [← powZ_even Hk0.out Hodd.out]; exact Hpw.out, Hbel.out.trans (Bf.out.mono Hbel.out.size)⟩
        case measure => simp [intOf] <;> omega

end Go.Proofs.Ytlnjkjogedbhfaa
