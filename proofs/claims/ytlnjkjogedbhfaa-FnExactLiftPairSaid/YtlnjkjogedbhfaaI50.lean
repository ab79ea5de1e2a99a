/- A whole minus a quotient's product, over a prime: the program's closure. Conditions: terms over the prime. -/
import Derived.Test.YtlnjkjogedbhfaaIBez
import Derived.Test.YtlnjkjogedbhfaaIZ
import Derived.Test.YtlnjkjogedbhfaaI17
import Derived.Deep.RegionWith
namespace Go.Proofs.Ytlnjkjogedbhfaa
open Go Go.RowKit
set_option linter.unusedSimpArgs false
set_option linter.unusedVariables false

set_option maxRecDepth 100000 in
set_option maxHeartbeats 4000000 in
theorem minus_impl (vx vq vy : Value) (x q y : List Int) (m : Int) (cb : Nat) (w : World) (hx : RdI w vx x) (hq : RdI w vq q) (hy : RdI w vy y) (hc : w.cell? ⟨cb, 0, none⟩ = some (.int .i64 m)) (hm : primeB m = true) (ox : Ovr m x) (oq : Ovr m q) (oy : Ovr m y) (hl : q.length + y.length ≤ 101) : Calls Try.prog 132 #[.agg #[vx], .agg #[vq], .agg #[vy], .pointer (some ⟨cb, 0, none⟩)] w (RW (subF m x (mulF m q y)) w) := by
  have hm2 := primeB_bd hm
  have Hm := Lib.hid hm
  have HX0 := Lib.hid hx
  have HQ := Lib.hid hq
  have HY0 := Lib.hid hy
  have Oq := Lib.hid oq
  have Oy := Lib.hid oy
  have Ox := Lib.hid ox
  have Op := Lib.hid (mulF_ovr (m := m) (by omega) oq oy hl)
  have HXb := Lib.hid (fun i => show 0 ≤ x.getD i 0 ∧ x.getD i 0 ≤ 1000 by have := ox.ov i; omega)
  have HYb := Lib.hid (fun i => show 0 ≤ (mulF m q y).getD i 0 ∧ (mulF m q y).getD i 0 ≤ 1000 by have := Op.out.ov i; omega)
  have hlx := ox.len
  have hlx1 := ox.trd.1
  have hlp := Op.out.len
  obtain ⟨pX, qX, rfl⟩ := hx.shape
  obtain ⟨pQ, qQ, rfl⟩ := hq.shape
  obtain ⟨pY, qY, rfl⟩ := hy.shape
  have hcb := World.block_lt_of_cell? _ _ hc
  simp only at hcb
  have hcb1 : cb < w.heap.size + 1 := by omega
  have hcb2 : cb < w.heap.size + 1 + 1 := by omega
  have hcb3 : cb < w.heap.size + 1 + 1 + 1 := by omega
  have hcb4 : cb < w.heap.size + 1 + 1 + 1 + 1 := by omega
  have hcb5 : cb < w.heap.size + 1 + 1 + 1 + 1 + 1 := by omega
  clear hx hq hy hm ox oq oy
  go_enter Try.func132, Try.ntmps132
  go_wp2_with fail
  (go_at_call 82; ((with_reducible refine (mulOver_impl _ _ q y m _ (HQ.out.below (by (repeat' (first | (with_reducible exact Below.refl _ _) | (with_reducible assumption) | (with_reducible refine Below.alloc ?_ ?_ _) | (with_reducible refine Below.setCell ?_ ?_ _) | (with_reducible refine Below.drew ?_) | (with_reducible refine Below.via (by assumption) ?_ ?_) | go_size)))) (HY0.out.below (by (repeat' (first | (with_reducible exact Below.refl _ _) | (with_reducible assumption) | (with_reducible refine Below.alloc ?_ ?_ _) | (with_reducible refine Below.setCell ?_ ?_ _) | (with_reducible refine Below.drew ?_) | (with_reducible refine Below.via (by assumption) ?_ ?_) | go_size)))) Hm.out Oq.out Oy.out hl).mono ?_); rintro e w1 ⟨v1, rfl, ho1, hb1⟩))
  obtain ⟨c1, f1⟩ := bcell hb1
  have z1 := hb1.size
  simp only [World.size_alloc] at z1
  have l0 : w.heap.size < w1.heap.size := by omega
  have l1 : w.heap.size + 1 < w1.heap.size := by omega
  have l2 : w.heap.size + 1 + 1 < w1.heap.size := by omega
  have l3 : w.heap.size + 1 + 1 + 1 < w1.heap.size := by omega
  have lcb : cb < w1.heap.size := by omega
  have HP1 := Lib.hid ho1
  have HSub := Lib.hid (show subF m x (mulF m q y) = trimZ (buildZ (fun k => (x.getD k 0 - (mulF m q y).getD k 0) % m) (max x.length (mulF m q y).length)) from rfl)
  generalize hpe : mulF m q y = P at *
  obtain ⟨p1, q1, rfl⟩ := ho1.rd.shape
  clear ho1 hpe
  obtain ⟨n, hn⟩ : ∃ n : Nat, n = max x.length P.length := ⟨_, rfl⟩
  rw [← hn] at HSub
  have Hnm := Lib.hid hn
  have hn3 : n ≤ 100 := by omega
  have hn0 : 0 < n := by omega
  clear hn
  have hmx : (if (x.length : Int) < (P.length : Int) then (P.length : Int) else (x.length : Int)) = (n : Int) := by have := Hnm.out; split <;> omega
  go_wp2_with fail
  all_goals
    generalize hw3 : World.alloc w1 _ = w3
    have Hw3 := Lib.hid hw3
    clear hw3
    have hb3 : Below w1.heap.size w1 w3 := by rw [← Hw3.out]; exact (Below.refl _ _).alloc (Nat.le_refl _) _
    have x0 : w3.cell? ⟨w.heap.size, 0, none⟩ = some (.slice pX x.length qX) := by rw [← Hw3.out]; go_simp
    have y0 : w3.cell? ⟨w1.heap.size, 0, none⟩ = some (.slice p1 P.length q1) := by rw [← Hw3.out]; go_simp
    have m0 : w3.cell? ⟨cb, 0, none⟩ = some (.int .i64 m) := by rw [← Hw3.out]; go_simp
    have x7 : w3.cell? ⟨w.heap.size + 1 + 1 + 1, 0, none⟩ = some (.slice none 0 0) := by rw [← Hw3.out]; go_simp
    have y7 : w3.frozen? ⟨w.heap.size + 1 + 1 + 1, 0, none⟩ = false := by rw [← Hw3.out]; go_simp
    have B1 := Lib.hid (show Below w.heap.size w w1 by (repeat' (first | (with_reducible exact Below.refl _ _) | (with_reducible assumption) | (with_reducible refine Below.alloc ?_ ?_ _) | (with_reducible refine Below.setCell ?_ ?_ _) | (with_reducible refine Below.drew ?_) | (with_reducible refine Below.via (by assumption) ?_ ?_) | go_size)))
    have HX := Lib.hid (RdZ.ofOld (g0 := w.heap.size + 1 + 1 + 1 + 1) HX0.out Ox.out.ne (B1.out.trans (hb3.mono (by omega))) (by omega))
    have HY := Lib.hid (RdZ.ofOwn (g0 := w.heap.size + 1 + 1 + 1 + 1) HP1.out Op.out.ne hb3 (by simp only [World.size_alloc]; omega))
    have dx : w.heap.size ≠ w.heap.size + 1 + 1 + 1 + 1 := by omega
    have dy : w1.heap.size ≠ w.heap.size + 1 + 1 + 1 + 1 := by omega
    have dm : cb ≠ w.heap.size + 1 + 1 + 1 + 1 := by omega
    have B3 := Lib.hid (B1.out.trans (hb3.mono (by omega)))
    have z3 := hb3.size
    have HRow0 := Lib.hid (RowZ.start ((RowI.emptyB (E := fun k => (x.getD k 0 - P.getD k 0) % m) (s := w.heap.size + 1 + 1 + 1 + 1) (B := w.heap.size + 1 + 1 + 1 + 1) (by simp) (Nat.le_refl _)).below hb1 |>.below hb3))
    have l73 : w.heap.size + 1 + 1 + 1 < w3.heap.size := by omega
    clear Hw3 hb3 hb1 c1 f1 hcb hcb1 hcb2 hcb3 hcb4 hcb5 hc l0 l1 l2 l3 hmx B1 HP1 HX0
    go_loopw [8, 23] (fun ov i wr => ∃ k : Nat, k ≤ n ∧ i = .int .i64 k ∧ RowZ w3 (w.heap.size + 1 + 1 + 1 + 1) wr ov (buildZ (fun k => (x.getD k 0 - P.getD k 0) % m) k)) (fun _ i _ => n - (intOf i).toNat)
    case atStart => exact ⟨0, Nat.zero_le _, rfl, HRow0.out⟩
    case round =>
      obtain ⟨k, hk, rfl, hrow⟩ := hrel
      have hsz := hrow.size
      have Hrow := Lib.hid hrow
      have hlen : (buildZ (fun k => (x.getD k 0 - P.getD k 0) % m) k).length ≤ 1099511627776 := by rw [buildZ_length]; omega
      have wx1 := World.block_lt_of_cell? _ _ x0
      have wy1 := World.block_lt_of_cell? _ _ y0
      have wm1 := World.block_lt_of_cell? _ _ m0
      simp only at wx1 wy1 wm1
      have e0 := (hrow.cell wx1 dx).trans x0
      have e1 := (hrow.cell wy1 dy).trans y0
      have e2 := (hrow.cell wm1 dm).trans m0
      have n0 : w.heap.size < wr.heap.size := by omega
      have n1 : w1.heap.size < wr.heap.size := by omega
      have n2 : cb < wr.heap.size := by omega
      have RX := Lib.hid (HX.out.rd hrow)
      have RY := Lib.hid (HY.out.rd hrow)
      clear hrow
      by_cases hlt : k < n
      · have hki1 : x.length < P.length → (k : Int) < (P.length : Int) := fun _ => by have := Hnm.out; omega
        have hki2 : ¬ x.length < P.length → (k : Int) < (x.length : Int) := fun _ => by have := Hnm.out; omega
        have Hn := Lib.hid (show buildZ (fun k => (x.getD k 0 - P.getD k 0) % m) k ++ [(x.getD k 0 - P.getD k 0) % m] = buildZ (fun k => (x.getD k 0 - P.getD k 0) % m) (k + 1) from buildZ_succ _ k)
        have bd1 := HXb.out k
        have bd2 := HYb.out k
        have Hx1 := Lib.hid (atZ_nat x k)
        have Hy1 := Lib.hid (atZ_nat P k)
        have hw1 : IntKind.i64.wrap (x.getD k 0 - P.getD k 0) = x.getD k 0 - P.getD k 0 := IntWalk.i64_in _ ⟨by omega, by omega⟩
        generalize x.getD k 0 = X at *
        generalize P.getD k 0 = Y at *
        clear x0 y0 m0
        go_wp2_with fail
        go_region_held3 (fun w' => w'.cell? ⟨w.heap.size, 0, none⟩ = some (.slice pX x.length qX) ∧ w'.cell? ⟨w1.heap.size, 0, none⟩ = some (.slice p1 P.length q1) ∧ w'.cell? ⟨cb, 0, none⟩ = some (.int .i64 m))
          (((try dsimp only); (try go_split_ands); refine ⟨?_, ?_, ?_⟩ <;> (first | assumption | (rw [World.cell?_of_block (hn1 _ wx1 dx)]; assumption) | (rw [World.cell?_of_block (hn1 _ wy1 dy)]; assumption) | (rw [World.cell?_of_block (hn1 _ wm1 dm)]; assumption)  | (refine (((Below.refl _ _).alloc (Nat.le_refl _) _).cell (by first | omega | (simp <;> omega))).trans (by assumption)) | (go_keep; done))))
          (first
            | (go_at_call 89; ((with_reducible refine (integerAt_impl _ x k _ (RX.out.below (by (repeat' (first | (with_reducible exact Below.refl _ _) | (with_reducible assumption) | (with_reducible refine Below.alloc ?_ ?_ _) | (with_reducible refine Below.setCell ?_ ?_ _) | (with_reducible refine Below.drew ?_) | (with_reducible refine Below.via (by assumption) ?_ ?_) | go_size)))) (by omega)).mono ?_); rintro e w' ⟨rfl, rfl⟩; rw [Hx1.out]))
            | (go_at_call 89; ((with_reducible refine (integerAt_impl _ P k _ (RY.out.below (by (repeat' (first | (with_reducible exact Below.refl _ _) | (with_reducible assumption) | (with_reducible refine Below.alloc ?_ ?_ _) | (with_reducible refine Below.setCell ?_ ?_ _) | (with_reducible refine Below.drew ?_) | (with_reducible refine Below.via (by assumption) ?_ ?_) | go_size)))) (by omega)).mono ?_); rintro e w' ⟨rfl, rfl⟩; rw [Hy1.out]))
            | (go_at_call 85; ((with_reducible refine (rest_impl (X - Y) m _ (by omega) (by omega) (by omega) (by omega)).mono ?_); rintro e w' ⟨rfl, rfl⟩))
            | (refine step_pushZ (W := w3) (g0 := w.heap.size + 1 + 1 + 1 + 1) (zs := buildZ (fun k => (x.getD k 0 - P.getD k 0) % m) k) (y := (X - Y) % m) rfl _ _ rfl int64S_under (Hrow.out.below (by (repeat' (first | (with_reducible exact Below.refl _ _) | (with_reducible assumption) | (with_reducible refine Below.alloc ?_ ?_ _) | (with_reducible refine Below.setCell ?_ ?_ _) | (with_reducible refine Below.drew ?_) | (with_reducible refine Below.via (by assumption) ?_ ?_) | go_size)))) hlen (by first | omega | (simp; omega)) rfl _ rfl (by go_simp) ?_; intro v1 w9 hr1 hn1))
        go_wp2_with fail
        go_roundw
        case rel => exact ⟨k + 1, by omega, by go_num, by rw [← Hn.out]; exact hr1⟩
        case measure => simp [intOf]; omega
      · obtain rfl : k = n := by omega
        have hki1 : x.length < P.length → ¬ (k : Int) < (P.length : Int) := fun _ => by have := Hnm.out; omega
        have hki2 : ¬ x.length < P.length → ¬ (k : Int) < (x.length : Int) := fun _ => by have := Hnm.out; omega
        have x7r := (Hrow.out.cell l73 (by omega)).trans x7
        have y7r := (Hrow.out.frozen l73 (by omega)).trans y7
        have l7r : w.heap.size + 1 + 1 + 1 < wr.heap.size := by omega
        have Bwr := Lib.hid (B3.out.trans (Hrow.out.only.toBelow (by omega) (by omega)))
        clear e0 e1 e2 n0 n1 n2 x0 y0 m0 x7 y7
        go_wp2_with fail
        (go_at_call 86; ((with_reducible refine (whole_impl _ _ _ (w.heap.size + 1 + 1 + 1 + 1) Hrow.out.row.own (by rw [buildZ_length]; omega)).mono ?_); rintro e w5 ⟨v5, rfl, ho5, hb5⟩))
        have Ho5 := Lib.hid ho5
        have x75 := (hb5.cell (p := ⟨w.heap.size + 1 + 1 + 1, 0, none⟩) l7r).trans x7r
        have y75 := (hb5.frozen (p := ⟨w.heap.size + 1 + 1 + 1, 0, none⟩) l7r).trans y7r
        have z5 := hb5.size
        have l75 : w.heap.size + 1 + 1 + 1 < w5.heap.size := by omega
        have Bw5 := Lib.hid (Bwr.out.trans (hb5.mono (by omega)))
        obtain ⟨p5, n5, rfl⟩ := ho5.rd.shape
        clear ho5 hb5 x7r y7r
        go_wp2_with fail
        (try simp only [Exit.inBlock, Exit.then]); refine bodyPost_ret (by simp [results, Try.results132, go_sem, *]; try rfl) rfl ?_
        rw [HSub.out]
        exact ⟨_, rfl, OwI.mono (B := w.heap.size + 1 + 1 + 1 + 1) (OwI.setCell Ho5.out (a := ⟨w.heap.size + 1 + 1 + 1, 0, none⟩) (by simp only; omega) _) (by omega), by have h := Bw5.out; (repeat' (first | (with_reducible exact Below.refl _ _) | (with_reducible assumption) | (with_reducible refine Below.alloc ?_ ?_ _) | (with_reducible refine Below.setCell ?_ ?_ _) | (with_reducible refine Below.drew ?_) | (with_reducible refine Below.via (by assumption) ?_ ?_) | go_size))⟩

end Go.Proofs.Ytlnjkjogedbhfaa
