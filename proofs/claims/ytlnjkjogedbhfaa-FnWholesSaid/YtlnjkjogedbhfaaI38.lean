/- Values and sums of wholes, where they answer. Conditions: valid wholes, small terms. -/
import Derived.Test.YtlnjkjogedbhfaaI37
import Derived.Deep.RegionHeld3
import Derived.Test.YtlnjkjogedbhfaaI23
namespace Go.Proofs.Ytlnjkjogedbhfaa
open Go Go.RowKit
set_option linter.unusedSimpArgs false
set_option linter.unusedVariables false

theorem isValue_impl (n : Int) (w : World) (h : -1000000000000000 ≤ n ∧ n ≤ 1000000000000000) : Calls Try.prog 98 #[.int .i64 n] w fun e w' => e = .returned (.bool true) ∧ w = w' := by
  have Hi := Lib.hid (show inB (-1000000000000000) n 1000000000000000 = true from inB_true.2 h)
  go_enter Try.func98, Try.ntmps98
  go_wp2_with fail
  (go_at_call 95; ((with_reducible refine (within_impl _ _ _ _).mono ?_); rintro e w' ⟨rfl, rfl⟩))
  rw [Hi.out]
  go_wp2_with fail
  go_ret
  exact ⟨rfl, rfl⟩

set_option maxRecDepth 100000 in
set_option maxHeartbeats 1600000 in
theorem WholeAt_impl (va : Value) (a : List Int) (x : Int) (w : World) (ha : RdI w va a) (hva : Vld a) (hbd : BdI 1000 a) (hl9 : a.length ≤ 9) (hx : -4 ≤ x ∧ x ≤ 4) : Calls Try.prog 22 #[.agg #[va], .int .i64 x] w (RZB (ev a x) w) := by
  have Ha := Lib.hid ha
  have Hva := Lib.hid hva
  have Hbd := Lib.hid hbd
  have Hqa := Lib.hid (validB_iff.2 hva)
  have Hin := Lib.hid (show inB (-1000) x 1000 = true from inB_true.2 (by omega))
  have hn1 := List.length_pos_iff.2 hva.ne
  obtain ⟨b, off, cap, rfl, hb, hc⟩ := ha.open hva.ne
  have Hc := Lib.hid (fun (w' : World) (h : Below w.heap.size w w') i (hi : i < a.length) => (h.cell (p := ⟨b, off + i, none⟩) hb).trans (hc i hi))
  clear ha hva hbd hc
  have Hh1 := Lib.hid (show hor a x 1 = lastZ a by simp only [hor, Int.zero_mul, Int.zero_add]; rfl)
  have Hev := Lib.hid (hor_all a x)
  have Hll := Lib.hid (show a.getD (a.length - 1) 0 = lastZ a from rfl)
  go_enter Try.func22, Try.ntmps22
  go_wp2_with fail
  (go_at_call 24; ((with_reducible refine (valid_impl _ a _ (Ha.out.below (by (repeat' (first | (with_reducible exact Below.refl _ _) | (with_reducible assumption) | (with_reducible refine Below.alloc ?_ ?_ _) | (with_reducible refine Below.setCell ?_ ?_ _) | (with_reducible refine Below.drew ?_) | (with_reducible refine Below.via (by assumption) ?_ ?_) | go_size)))) (by omega)).mono ?_); rintro e w1 ⟨rfl, hb1⟩))
  rw [Hqa.out]
  obtain ⟨c1, f1⟩ := bcell hb1
  have z1 := hb1.size
  simp only [World.size_alloc] at z1
  have l0 : w.heap.size < w1.heap.size := by omega
  have Bw1 := Lib.hid (show Below w.heap.size w w1 by (repeat' (first | (with_reducible exact Below.refl _ _) | (with_reducible assumption) | (with_reducible refine Below.alloc ?_ ?_ _) | (with_reducible refine Below.setCell ?_ ?_ _) | (with_reducible refine Below.drew ?_) | (with_reducible refine Below.via (by assumption) ?_ ?_) | go_size)))
  have x0 : w1.cell? ⟨w.heap.size, 0, none⟩ = some (.slice (some ⟨b, off, none⟩) a.length cap) := by go_simp
  clear hb1 c1 f1
  go_wp2_with fail
  (go_at_call 95; ((with_reducible refine (within_impl _ _ _ _).mono ?_); rintro e w' ⟨rfl, rfl⟩))
  rw [Hin.out]
  go_wp2_with fail
  (go_at_call 80; ((with_reducible refine (last_exact b off _ cap (lastZ a) _ hn1 (by omega) (by omega) (by rw [← Hll.out]; exact Hc.out _ Bw1.out _ (by omega))).mono ?_); rintro e w' ⟨rfl, rfl⟩))
  have l1 : w.heap.size < w1.heap.size + 1 := by omega
  go_wp2_with fail
  (go_at_call 79; ((with_reducible refine (degree_exact (some ⟨b, off, none⟩) a.length cap _ (by omega)).mono ?_); rintro e w' ⟨rfl, rfl⟩))
  generalize hw3 : (w1.alloc _).alloc _ = w3
  have hb3 : Below w1.heap.size w1 w3 := by rw [← hw3]; (repeat' (first | (with_reducible exact Below.refl _ _) | (with_reducible assumption) | (with_reducible refine Below.alloc ?_ ?_ _) | (with_reducible refine Below.setCell ?_ ?_ _) | (with_reducible refine Below.drew ?_) | (with_reducible refine Below.via (by assumption) ?_ ?_) | go_size))
  replace x0 := (hb3.cell (p := ⟨w.heap.size, 0, none⟩) l0).trans x0
  have Bw3 := Lib.hid (Bw1.out.trans (hb3.mono (by omega)))
  clear hw3 hb3 l1
  have l3 := World.block_lt_of_cell? _ _ x0
  simp only at l3
  go_wp2
  go_loopw [6, 7] (fun vv kk wr => ∃ (j i : Nat), 1 ≤ j ∧ i + j = a.length ∧ vv = .int .i64 (hor a x j) ∧ kk = .int .i64 ((i : Int) - 1) ∧ wr = w3) (fun _ kk _ => (intOf kk + 1).toNat)
  case atStart => exact ⟨1, a.length - 1, Nat.le_refl _, by omega, by rw [Hh1.out], by go_num, rfl⟩
  case round =>
    obtain ⟨j, i, hj, hij, rfl, rfl, rfl⟩ := hrel
    cases i with
    | zero =>
      obtain rfl : j = a.length := by omega
      rw [Hev.out]
      go_wp2
      go_ret2
      exact ⟨rfl, Bw3.out⟩
    | succ i =>
      have c2 := Hc.out _ Bw3.out i (by omega)
      have hz := Hbd.out i
      have hh := hor_bd9 Hbd.out hx (j := j) (by omega)
      have hh2 := hor_bd9 Hbd.out hx (j := j + 1) (by omega)
      have e : hor a x (j + 1) = hor a x j * x + a.getD i 0 := by
        rw [hor]
        show hor a x j * x + a.getD (a.length - (j + 1)) 0 = _
        rw [show a.length - (j + 1) = i by omega]
      have hm := mul4 (B := 1953125000) (by omega) hh hx
      have He := Lib.hid e
      rw [e] at hh2
      clear e
      generalize a.getD i 0 = z at *
      generalize hor a x j = v at *
      have hlt : i < a.length := by omega
      have q1 : IntKind.i64.wrap (v * x) = v * x := IntWalk.i64_in _ ⟨by omega, by omega⟩
      have q2 : IntKind.i64.wrap (v * x + z) = v * x + z := IntWalk.i64_in _ ⟨by omega, by omega⟩
      rw [show (((i + 1 : Nat) : Int) - 1) = (i : Int) by omega]
      go_wp2_with fail
      (go_at_call 98; ((with_reducible refine (isValue_impl _ _ ⟨by omega, by omega⟩).mono ?_); rintro e w' ⟨rfl, rfl⟩))
      go_wp2_with fail
      go_roundw
      case rel => exact ⟨j + 1, i, by omega, by omega, by rw [He.out], by go_num, by first | rfl | trivial⟩
      case measure => simp [intOf] <;> omega

def addE (a b : List Int) (x y : Int) (k : Nat) : Int := x * atZ a k + y * atZ b k
def addZ (a b : List Int) (x y : Int) : List Int := buildZ (addE a b x y) (max a.length b.length)
theorem addZ_co (a b : List Int) (x y : Int) : co (addZ a b x y) = fun i => x * co a i + y * co b i := by
  have hat : ∀ (zs : List Int) (i : Nat), atZ zs i = co zs i := fun zs i => by
    unfold atZ
    by_cases h : i < zs.length
    · rw [if_pos ⟨by omega, by omega⟩, Int.toNat_natCast]; rfl
    · rw [if_neg (by omega), co_beyond zs (by omega)]
  funext i
  show (addZ a b x y).getD i 0 = _
  rw [addZ, buildZ_get]
  split
  · rw [addE, hat, hat]
  · rw [co_beyond a (by omega), co_beyond b (by omega), Int.mul_zero, Int.mul_zero]; rfl
theorem ev_add (a b : List Int) (x y z : Int) : ev (addZ a b x y) z = x * ev a z + y * ev b z := by
  rw [← ev_len (n := a.length + b.length) (by rw [addZ, buildZ_length]; omega), addZ_co, evs_add, evs_smul, evs_smul, ev_len (zs := a) (by omega), ev_len (zs := b) (by omega)]
theorem integerAt_call (v : Value) (zs : List Int) (k : Int) (w : World) (hv : RdI w v zs) (hl : zs.length ≤ 1099511627776) : Calls Try.prog 89 #[v, .int .i64 k] w fun e w' => e = .returned (.int .i64 (atZ zs k)) ∧ w' = w :=
  (integerAt_impl v zs k w hv hl).mono (by rintro e w' ⟨rfl, rfl⟩; exact ⟨rfl, rfl⟩)
set_option maxRecDepth 100000 in
set_option maxHeartbeats 1600000 in
theorem AddWholes_impl (va vb : Value) (a b r : List Int) (x y : Int) (w : World) (ha : RdI w va a) (hb : RdI w vb b) (hva : Vld a) (hvb : Vld b) (hx : -10 ≤ x ∧ x ≤ 10) (hy : -10 ≤ y ∧ y ≤ 10) (hr : trimZ (addZ a b x y) = r) (hvr : Vld r) : Calls Try.prog 23 #[.agg #[va], .agg #[vb], .int .i64 x, .int .i64 y] w (RWB (r, true) w) := by
  have Ha := Lib.hid ha
  have Hb := Lib.hid hb
  have Hva := Lib.hid hva
  have Hvb := Lib.hid hvb
  have Hqa := Lib.hid (validB_iff.2 hva)
  have Hqb := Lib.hid (validB_iff.2 hvb)
  have Hr := Lib.hid hr
  have Hg := Lib.hid (giveF_valid (validB_iff.2 hvr))
  have Hix := Lib.hid (show inB (-1000) x 1000 = true from inB_true.2 (by omega))
  have Hiy := Lib.hid (show inB (-1000) y 1000 = true from inB_true.2 (by omega))
  have hla := hva.len
  have hlb := hvb.len
  have hlr := hvr.len
  obtain ⟨aoa, ca, rfl⟩ := ha.shape
  obtain ⟨aob, cb, rfl⟩ := hb.shape
  clear ha hb hva hvb hr hvr
  go_enter Try.func23, Try.ntmps23
  go_wp2_with fail
  (go_at_call 24; ((with_reducible refine (valid_impl _ a _ (Ha.out.below (by (repeat' (first | (with_reducible exact Below.refl _ _) | (with_reducible assumption) | (with_reducible refine Below.alloc ?_ ?_ _) | (with_reducible refine Below.setCell ?_ ?_ _) | (with_reducible refine Below.drew ?_) | (with_reducible refine Below.via (by assumption) ?_ ?_) | go_size)))) (by omega)).mono ?_); rintro e w1 ⟨rfl, hb1⟩))
  rw [Hqa.out]
  obtain ⟨c1, f1⟩ := bcell hb1
  have z1 := hb1.size
  simp only [World.size_alloc] at z1
  have l0 : w.heap.size < w1.heap.size := by omega
  have l1 : w.heap.size + 1 < w1.heap.size := by omega
  have l2 : w.heap.size + 1 + 1 < w1.heap.size := by omega
  go_wp2_with fail
  (go_at_call 24; ((with_reducible refine (valid_impl _ b _ (Hb.out.below (by (repeat' (first | (with_reducible exact Below.refl _ _) | (with_reducible assumption) | (with_reducible refine Below.alloc ?_ ?_ _) | (with_reducible refine Below.setCell ?_ ?_ _) | (with_reducible refine Below.drew ?_) | (with_reducible refine Below.via (by assumption) ?_ ?_) | go_size)))) (by omega)).mono ?_); rintro e w2 ⟨rfl, hb2⟩))
  rw [Hqb.out]
  obtain ⟨c2, f2⟩ := bcell hb2
  have z2 := hb2.size
  have x0 : w2.cell? ⟨w.heap.size, 0, none⟩ = some (.slice aoa a.length ca) := by go_simp
  have x1 : w2.cell? ⟨w.heap.size + 1, 0, none⟩ = some (.slice aob b.length cb) := by go_simp
  have x2 : w2.cell? ⟨w.heap.size + 1 + 1, 0, none⟩ = some (.slice none 0 0) := by go_simp
  have y2 : w2.frozen? ⟨w.heap.size + 1 + 1, 0, none⟩ = false := by go_simp
  have Bw2 := Lib.hid (show Below w.heap.size w w2 by (repeat' (first | (with_reducible exact Below.refl _ _) | (with_reducible assumption) | (with_reducible refine Below.alloc ?_ ?_ _) | (with_reducible refine Below.setCell ?_ ?_ _) | (with_reducible refine Below.drew ?_) | (with_reducible refine Below.via (by assumption) ?_ ?_) | go_size)))
  have m0 : w.heap.size < w2.heap.size := by omega
  have m1 : w.heap.size + 1 < w2.heap.size := by omega
  have m2 : w.heap.size + 1 + 1 < w2.heap.size := by omega
  clear hb1 hb2 c1 f1 c2 f2 l0 l1 l2
  go_wp2_with fail
  (go_at_call 95; ((with_reducible refine (within_impl _ _ _ _).mono ?_); rintro e w' ⟨rfl, rfl⟩))
  rw [Hix.out]
  go_wp2_with fail
  (go_at_call 95; ((with_reducible refine (within_impl _ _ _ _).mono ?_); rintro e w' ⟨rfl, rfl⟩))
  rw [Hiy.out]
  by_cases hle0 : a.length < b.length
  · have hmx := Lib.hid (show max a.length b.length = b.length by omega)
    have hN1 : b.length ≤ 17 := by omega
    have hle : (a.length : Int) < b.length := by omega
    go_wp2
    go_loopw [10, 39] (fun ov i wr => ∃ k : Nat, k ≤ b.length ∧ i = .int .i64 k ∧ RowI wr w2.heap.size ov (buildZ (addE a b x y) k) ∧ Below w2.heap.size w2 wr) (fun _ i _ => b.length - (intOf i).toNat)
    case atStart => exact ⟨0, Nat.zero_le _, rfl, RowI.emptyB (by simp) (by simp), by (repeat' (first | (with_reducible exact Below.refl _ _) | (with_reducible assumption) | (with_reducible refine Below.alloc ?_ ?_ _) | (with_reducible refine Below.setCell ?_ ?_ _) | (with_reducible refine Below.drew ?_) | (with_reducible refine Below.via (by assumption) ?_ ?_) | go_size))⟩
    case round =>
      obtain ⟨k, hk, rfl, hrow, hbel⟩ := hrel
      have hsz := hbel.size
      by_cases hlt : k < b.length
      · have e0 := (hbel.cell (p := ⟨w.heap.size, 0, none⟩) m0).trans x0
        have e1 := (hbel.cell (p := ⟨w.heap.size + 1, 0, none⟩) m1).trans x1
        have hlen : (buildZ (addE a b x y) k).length ≤ 1099511627776 := by rw [buildZ_length]; omega
        have Hn := Lib.hid (show buildZ (addE a b x y) k ++ [x * atZ a k + y * atZ b k] = buildZ (addE a b x y) (k + 1) from buildZ_succ _ k)
        have ba := atZ_bd (M := 1000000) (by omega) Hva.out.bd k
        have bb := atZ_bd (M := 1000000) (by omega) Hvb.out.bd k
        have p1 := mul_bound (M := 1000000) (by omega) (show -1000000 ≤ x ∧ x ≤ 1000000 by omega) ba
        have p2 := mul_bound (M := 1000000) (by omega) (show -1000000 ≤ y ∧ y ≤ 1000000 by omega) bb
        have Hbb := Lib.hid (Bw2.out.trans (hbel.mono (show w.heap.size ≤ w2.heap.size by omega)))
        have Hrow := Lib.hid hrow
        have s0 : w.heap.size < wr.heap.size := by omega
        have s1 : w.heap.size + 1 < wr.heap.size := by omega
        generalize hu : atZ a k = u at *
        generalize hv : atZ b k = v at *
        have q1 : IntKind.i64.wrap (x * u) = x * u := IntWalk.i64_in _ ⟨by omega, by omega⟩
        have q2 : IntKind.i64.wrap (y * v) = y * v := IntWalk.i64_in _ ⟨by omega, by omega⟩
        have q3 : IntKind.i64.wrap (x * u + y * v) = x * u + y * v := IntWalk.i64_in _ ⟨by omega, by omega⟩
        clear hrow
        go_wp2
        go_region_held3 (fun w' => w'.cell? ⟨w.heap.size, 0, none⟩ = some (.slice aoa a.length ca) ∧ w'.cell? ⟨w.heap.size + 1, 0, none⟩ = some (.slice aob b.length cb))
          (((try dsimp only); (try go_split_ands); refine ⟨?_, ?_⟩ <;> (first | assumption | (rw [hb1.cell (by first | omega | (simp <;> omega))]; assumption) | (refine (((Below.refl _ _).alloc (Nat.le_refl _) _).cell (by first | omega | (simp <;> omega))).trans (by assumption)) | (go_keep; done))))
          (first
            | (go_at_call 89; ((with_reducible refine (integerAt_impl (.slice aoa a.length ca) a k _ (Ha.out.below (by have h := Hbb.out; (repeat' (first | (with_reducible exact Below.refl _ _) | (with_reducible assumption) | (with_reducible refine Below.alloc ?_ ?_ _) | (with_reducible refine Below.setCell ?_ ?_ _) | (with_reducible refine Below.drew ?_) | (with_reducible refine Below.via (by assumption) ?_ ?_) | go_size)))) (by omega)).mono ?_); rintro e w' ⟨rfl, rfl⟩; rw [hu]))
            | (go_at_call 89; ((with_reducible refine (integerAt_impl (.slice aob b.length cb) b k _ (Hb.out.below (by have h := Hbb.out; (repeat' (first | (with_reducible exact Below.refl _ _) | (with_reducible assumption) | (with_reducible refine Below.alloc ?_ ?_ _) | (with_reducible refine Below.setCell ?_ ?_ _) | (with_reducible refine Below.drew ?_) | (with_reducible refine Below.via (by assumption) ?_ ?_) | go_size)))) (by omega)).mono ?_); rintro e w' ⟨rfl, rfl⟩; rw [hv]))
            | (refine step_pushI (B := w2.heap.size) (zs := buildZ (addE a b x y) k) (y := x * u + y * v) rfl _ _ rfl int64S_under (Hrow.out.below (by (repeat' (first | (with_reducible exact Below.refl _ _) | (with_reducible assumption) | (with_reducible refine Below.alloc ?_ ?_ _) | (with_reducible refine Below.setCell ?_ ?_ _) | (with_reducible refine Below.drew ?_) | (with_reducible refine Below.via (by assumption) ?_ ?_) | go_size)))) hlen (by first | omega | (simp; omega)) rfl _ rfl (by go_simp) ?_; intro v1 w3x hr1 hb1))
        go_wp2
        go_roundw
        case rel => exact ⟨k + 1, by omega, by go_num, by rw [← Hn.out]; exact hr1, by refine Below.trans ?_ hb1; (repeat' (first | (with_reducible exact Below.refl _ _) | (with_reducible assumption) | (with_reducible refine Below.alloc ?_ ?_ _) | (with_reducible refine Below.setCell ?_ ?_ _) | (with_reducible refine Below.drew ?_) | (with_reducible refine Below.via (by assumption) ?_ ?_) | go_size))⟩
        case measure => simp [intOf]; omega
      · obtain rfl : k = b.length := by omega
        have Hrow := Lib.hid (show OwI wr w2.heap.size u10 (addZ a b x y) by have h := hrow.own; rw [addZ, hmx.out]; exact h)
        have haz : (addZ a b x y).length ≤ 17 := by rw [addZ, buildZ_length]; omega
        have e2 := (hbel.cell (p := ⟨w.heap.size + 1 + 1, 0, none⟩) m2).trans x2
        have g2 := (hbel.frozen (p := ⟨w.heap.size + 1 + 1, 0, none⟩) m2).trans y2
        have t2 : w.heap.size + 1 + 1 < wr.heap.size := by omega
        have Hb9 := Lib.hid (Bw2.out.trans (hbel.mono (by omega)))
        clear hrow hbel x0 x1 x2 y2
        go_wp2_with fail
        (go_at_call 86; ((with_reducible refine (whole_impl _ (addZ a b x y) _ w2.heap.size Hrow.out (by omega)).mono ?_); rintro e w4 ⟨v4, rfl, ho4, hb4⟩))
        rw [Hr.out] at ho4
        replace e2 := (hb4.cell (p := ⟨w.heap.size + 1 + 1, 0, none⟩) t2).trans e2
        replace g2 := (hb4.frozen (p := ⟨w.heap.size + 1 + 1, 0, none⟩) t2).trans g2
        replace Hb9 := Lib.hid (Hb9.out.trans (hb4.mono (by omega)))
        have z4 := hb4.size
        have Ho4 := Lib.hid ho4
        clear ho4 hb4
        go_wp2_with fail
        (go_at_call 92; ((with_reducible refine (checked_impl _ r _ w2.heap.size Ho4.out (by omega)).mono ?_); rintro e w5 ⟨v5, rfl, ho5, hb5⟩))
        rw [Hg.out] at ho5
        rw [Hg.out]
        have z5 := hb5.size
        replace e2 := (hb5.cell (p := ⟨w.heap.size + 1 + 1, 0, none⟩) (by simp only; omega)).trans e2
        replace g2 := (hb5.frozen (p := ⟨w.heap.size + 1 + 1, 0, none⟩) (by simp only; omega)).trans g2
        replace Hb9 := Lib.hid (Hb9.out.trans (hb5.mono (by omega)))
        have Ho5 := Lib.hid ho5
        obtain ⟨p5, q5, rfl⟩ := ho5.rd.shape
        clear ho5 hb5
        go_wp2_with fail
        (try simp only [Exit.inBlock, Exit.then]); refine bodyPost_ret (by simp [results, Try.results23, go_sem, *]; try rfl) rfl ?_
        exact ⟨_, rfl, OwI.mono (B := w2.heap.size) (OwI.setCell Ho5.out (by show w.heap.size + 1 + 1 < _; omega) _) (by omega), by have h := Hb9.out; (repeat' (first | (with_reducible exact Below.refl _ _) | (with_reducible assumption) | (with_reducible refine Below.alloc ?_ ?_ _) | (with_reducible refine Below.setCell ?_ ?_ _) | (with_reducible refine Below.drew ?_) | (with_reducible refine Below.via (by assumption) ?_ ?_) | go_size))⟩
  · have hmx := Lib.hid (show max a.length b.length = a.length by omega)
    have hN1 : a.length ≤ 17 := by omega
    have hle : ¬ ((a.length : Int) < b.length) := by omega
    have hle2 : b.length ≤ a.length := by omega
    go_wp2
    go_loopw [10, 39] (fun ov i wr => ∃ k : Nat, k ≤ a.length ∧ i = .int .i64 k ∧ RowI wr w2.heap.size ov (buildZ (addE a b x y) k) ∧ Below w2.heap.size w2 wr) (fun _ i _ => a.length - (intOf i).toNat)
    case atStart => exact ⟨0, Nat.zero_le _, rfl, RowI.emptyB (by simp) (by simp), by (repeat' (first | (with_reducible exact Below.refl _ _) | (with_reducible assumption) | (with_reducible refine Below.alloc ?_ ?_ _) | (with_reducible refine Below.setCell ?_ ?_ _) | (with_reducible refine Below.drew ?_) | (with_reducible refine Below.via (by assumption) ?_ ?_) | go_size))⟩
    case round =>
      obtain ⟨k, hk, rfl, hrow, hbel⟩ := hrel
      have hsz := hbel.size
      by_cases hlt : k < a.length
      · have e0 := (hbel.cell (p := ⟨w.heap.size, 0, none⟩) m0).trans x0
        have e1 := (hbel.cell (p := ⟨w.heap.size + 1, 0, none⟩) m1).trans x1
        have hlen : (buildZ (addE a b x y) k).length ≤ 1099511627776 := by rw [buildZ_length]; omega
        have Hn := Lib.hid (show buildZ (addE a b x y) k ++ [x * atZ a k + y * atZ b k] = buildZ (addE a b x y) (k + 1) from buildZ_succ _ k)
        have ba := atZ_bd (M := 1000000) (by omega) Hva.out.bd k
        have bb := atZ_bd (M := 1000000) (by omega) Hvb.out.bd k
        have p1 := mul_bound (M := 1000000) (by omega) (show -1000000 ≤ x ∧ x ≤ 1000000 by omega) ba
        have p2 := mul_bound (M := 1000000) (by omega) (show -1000000 ≤ y ∧ y ≤ 1000000 by omega) bb
        have Hbb := Lib.hid (Bw2.out.trans (hbel.mono (show w.heap.size ≤ w2.heap.size by omega)))
        have Hrow := Lib.hid hrow
        have s0 : w.heap.size < wr.heap.size := by omega
        have s1 : w.heap.size + 1 < wr.heap.size := by omega
        generalize hu : atZ a k = u at *
        generalize hv : atZ b k = v at *
        have q1 : IntKind.i64.wrap (x * u) = x * u := IntWalk.i64_in _ ⟨by omega, by omega⟩
        have q2 : IntKind.i64.wrap (y * v) = y * v := IntWalk.i64_in _ ⟨by omega, by omega⟩
        have q3 : IntKind.i64.wrap (x * u + y * v) = x * u + y * v := IntWalk.i64_in _ ⟨by omega, by omega⟩
        clear hrow
        go_wp2
        go_region_held3 (fun w' => w'.cell? ⟨w.heap.size, 0, none⟩ = some (.slice aoa a.length ca) ∧ w'.cell? ⟨w.heap.size + 1, 0, none⟩ = some (.slice aob b.length cb))
          (((try dsimp only); (try go_split_ands); refine ⟨?_, ?_⟩ <;> (first | assumption | (rw [hb1.cell (by first | omega | (simp <;> omega))]; assumption) | (refine (((Below.refl _ _).alloc (Nat.le_refl _) _).cell (by first | omega | (simp <;> omega))).trans (by assumption)) | (go_keep; done))))
          (first
            | (go_at_call 89; ((with_reducible refine (integerAt_impl (.slice aoa a.length ca) a k _ (Ha.out.below (by have h := Hbb.out; (repeat' (first | (with_reducible exact Below.refl _ _) | (with_reducible assumption) | (with_reducible refine Below.alloc ?_ ?_ _) | (with_reducible refine Below.setCell ?_ ?_ _) | (with_reducible refine Below.drew ?_) | (with_reducible refine Below.via (by assumption) ?_ ?_) | go_size)))) (by omega)).mono ?_); rintro e w' ⟨rfl, rfl⟩; rw [hu]))
            | (go_at_call 89; ((with_reducible refine (integerAt_impl (.slice aob b.length cb) b k _ (Hb.out.below (by have h := Hbb.out; (repeat' (first | (with_reducible exact Below.refl _ _) | (with_reducible assumption) | (with_reducible refine Below.alloc ?_ ?_ _) | (with_reducible refine Below.setCell ?_ ?_ _) | (with_reducible refine Below.drew ?_) | (with_reducible refine Below.via (by assumption) ?_ ?_) | go_size)))) (by omega)).mono ?_); rintro e w' ⟨rfl, rfl⟩; rw [hv]))
            | (refine step_pushI (B := w2.heap.size) (zs := buildZ (addE a b x y) k) (y := x * u + y * v) rfl _ _ rfl int64S_under (Hrow.out.below (by (repeat' (first | (with_reducible exact Below.refl _ _) | (with_reducible assumption) | (with_reducible refine Below.alloc ?_ ?_ _) | (with_reducible refine Below.setCell ?_ ?_ _) | (with_reducible refine Below.drew ?_) | (with_reducible refine Below.via (by assumption) ?_ ?_) | go_size)))) hlen (by first | omega | (simp; omega)) rfl _ rfl (by go_simp) ?_; intro v1 w3x hr1 hb1))
        go_wp2
        go_roundw
        case rel => exact ⟨k + 1, by omega, by go_num, by rw [← Hn.out]; exact hr1, by refine Below.trans ?_ hb1; (repeat' (first | (with_reducible exact Below.refl _ _) | (with_reducible assumption) | (with_reducible refine Below.alloc ?_ ?_ _) | (with_reducible refine Below.setCell ?_ ?_ _) | (with_reducible refine Below.drew ?_) | (with_reducible refine Below.via (by assumption) ?_ ?_) | go_size))⟩
        case measure => simp [intOf]; omega
      · obtain rfl : k = a.length := by omega
        have Hrow := Lib.hid (show OwI wr w2.heap.size u10 (addZ a b x y) by have h := hrow.own; rw [addZ, hmx.out]; exact h)
        have haz : (addZ a b x y).length ≤ 17 := by rw [addZ, buildZ_length]; omega
        have e2 := (hbel.cell (p := ⟨w.heap.size + 1 + 1, 0, none⟩) m2).trans x2
        have g2 := (hbel.frozen (p := ⟨w.heap.size + 1 + 1, 0, none⟩) m2).trans y2
        have t2 : w.heap.size + 1 + 1 < wr.heap.size := by omega
        have Hb9 := Lib.hid (Bw2.out.trans (hbel.mono (by omega)))
        clear hrow hbel x0 x1 x2 y2
        go_wp2_with fail
        (go_at_call 86; ((with_reducible refine (whole_impl _ (addZ a b x y) _ w2.heap.size Hrow.out (by omega)).mono ?_); rintro e w4 ⟨v4, rfl, ho4, hb4⟩))
        rw [Hr.out] at ho4
        replace e2 := (hb4.cell (p := ⟨w.heap.size + 1 + 1, 0, none⟩) t2).trans e2
        replace g2 := (hb4.frozen (p := ⟨w.heap.size + 1 + 1, 0, none⟩) t2).trans g2
        replace Hb9 := Lib.hid (Hb9.out.trans (hb4.mono (by omega)))
        have z4 := hb4.size
        have Ho4 := Lib.hid ho4
        clear ho4 hb4
        go_wp2_with fail
        (go_at_call 92; ((with_reducible refine (checked_impl _ r _ w2.heap.size Ho4.out (by omega)).mono ?_); rintro e w5 ⟨v5, rfl, ho5, hb5⟩))
        rw [Hg.out] at ho5
        rw [Hg.out]
        have z5 := hb5.size
        replace e2 := (hb5.cell (p := ⟨w.heap.size + 1 + 1, 0, none⟩) (by simp only; omega)).trans e2
        replace g2 := (hb5.frozen (p := ⟨w.heap.size + 1 + 1, 0, none⟩) (by simp only; omega)).trans g2
        replace Hb9 := Lib.hid (Hb9.out.trans (hb5.mono (by omega)))
        have Ho5 := Lib.hid ho5
        obtain ⟨p5, q5, rfl⟩ := ho5.rd.shape
        clear ho5 hb5
        go_wp2_with fail
        (try simp only [Exit.inBlock, Exit.then]); refine bodyPost_ret (by simp [results, Try.results23, go_sem, *]; try rfl) rfl ?_
        exact ⟨_, rfl, OwI.mono (B := w2.heap.size) (OwI.setCell Ho5.out (by show w.heap.size + 1 + 1 < _; omega) _) (by omega), by have h := Hb9.out; (repeat' (first | (with_reducible exact Below.refl _ _) | (with_reducible assumption) | (with_reducible refine Below.alloc ?_ ?_ _) | (with_reducible refine Below.setCell ?_ ?_ _) | (with_reducible refine Below.drew ?_) | (with_reducible refine Below.via (by assumption) ?_ ?_) | go_size))⟩

end Go.Proofs.Ytlnjkjogedbhfaa
