/- A factor and the prime times another whole: the program's closure. Conditions: terms over the prime. -/
import Derived.Test.YtlnjkjogedbhfaaIBez
import Derived.Test.YtlnjkjogedbhfaaIZ
import Derived.Test.YtlnjkjogedbhfaaI17
import Derived.Deep.RegionWith
import Derived.Deep.RegionHeld3
namespace Go.Proofs.Ytlnjkjogedbhfaa
open Go Go.RowKit
set_option linter.unusedSimpArgs false
set_option linter.unusedVariables false

set_option maxRecDepth 100000 in
set_option maxHeartbeats 4000000 in
theorem lift_impl (vx vy : Value) (x y : List Int) (m : Int) (cb : Nat) (w : World) (hx : RdI w vx x) (hy : RdI w vy y) (hc : w.cell? ⟨cb, 0, none⟩ = some (.int .i64 m)) (hm : primeB m = true) (ox : Ovr m x) (oy : Ovr m y) : Calls Try.prog 90 #[.agg #[vx], .agg #[vy], .pointer (some ⟨cb, 0, none⟩)] w (RW (liftZ m x y) w) := by
  have hm2 := primeB_bd hm
  have HX0 := Lib.hid hx
  have HY0 := Lib.hid hy
  have Ox := Lib.hid ox
  have Oy := Lib.hid oy
  have HXb := Lib.hid (fun i => show 0 ≤ x.getD i 0 ∧ x.getD i 0 ≤ 1000 by have := ox.ov i; omega)
  have HYb := Lib.hid (fun i => show 0 ≤ y.getD i 0 ∧ y.getD i 0 ≤ 1000 by have := oy.ov i; omega)
  have hlx := ox.len
  have hlx1 := ox.trd.1
  have hly := oy.len
  obtain ⟨bX, fX, qX, rfl, hbX, hcX⟩ := hx.open ox.ne
  have HcX := Lib.hid hcX
  obtain ⟨pY, qY, rfl⟩ := hy.shape
  have hcb := World.block_lt_of_cell? _ _ hc
  simp only at hcb
  have hcb1 : cb < w.heap.size + 1 := by omega
  have hcb2 : cb < w.heap.size + 1 + 1 := by omega
  have hcb3 : cb < w.heap.size + 1 + 1 + 1 := by omega
  clear hx hy hm ox oy hcX
  go_enter Try.func90, Try.ntmps90
  go_wp2_with fail
  generalize hw3 : World.alloc _ _ = w3
  have Hw3 := Lib.hid hw3
  clear hw3
  have B3 := Lib.hid (show Below w.heap.size w w3 by rw [← Hw3.out]; (repeat' (first | (with_reducible exact Below.refl _ _) | (with_reducible assumption) | (with_reducible refine Below.alloc ?_ ?_ _) | (with_reducible refine Below.setCell ?_ ?_ _) | (with_reducible refine Below.drew ?_) | (with_reducible refine Below.via (by assumption) ?_ ?_) | go_size)))
  have x0 : w3.cell? ⟨w.heap.size, 0, none⟩ = some (.slice (some ⟨bX, fX, none⟩) x.length qX) := by rw [← Hw3.out]; go_simp
  have y0 : w3.cell? ⟨w.heap.size + 1, 0, none⟩ = some (.slice pY y.length qY) := by rw [← Hw3.out]; go_simp
  have m0 : w3.cell? ⟨cb, 0, none⟩ = some (.int .i64 m) := by rw [← Hw3.out]; go_simp
  have x7 : w3.cell? ⟨w.heap.size + 1 + 1, 0, none⟩ = some (.slice none 0 0) := by rw [← Hw3.out]; go_simp
  have y7 : w3.frozen? ⟨w.heap.size + 1 + 1, 0, none⟩ = false := by rw [← Hw3.out]; go_simp
  have HY := Lib.hid (RdZ.ofOld (g0 := w.heap.size + 1 + 1 + 1) HY0.out Oy.out.ne B3.out (by omega))
  have dy : w.heap.size + 1 ≠ w.heap.size + 1 + 1 + 1 := by omega
  have dm : cb ≠ w.heap.size + 1 + 1 + 1 := by omega
  have z3 : w3.heap.size = w.heap.size + 1 + 1 + 1 + 1 := by rw [← Hw3.out]; simp
  have HRow0 := Lib.hid (show RowZ w3 (w.heap.size + 1 + 1 + 1) w3 _ _ from RowZ.start (by rw [← Hw3.out]; exact RowI.emptyB (E := liftE m x y) (s := w.heap.size + 1 + 1 + 1) (B := w.heap.size + 1 + 1 + 1) (by simp) (Nat.le_refl _)))
  have l73 : w.heap.size + 1 + 1 < w3.heap.size := by omega
  clear Hw3 hcb hcb1 hcb2 hcb3 hc
  go_loopw [6, 13] (fun ov i wr => ∃ k : Nat, k ≤ x.length ∧ i = .int .i64 k ∧ RowZ w3 (w.heap.size + 1 + 1 + 1) wr ov (buildZ (liftE m x y) k)) (fun _ i _ => x.length - (intOf i).toNat)
  case atStart => exact ⟨0, Nat.zero_le _, rfl, HRow0.out⟩
  case round =>
    obtain ⟨k, hk, rfl, hrow⟩ := hrel
    have hsz := hrow.size
    have Hrow := Lib.hid hrow
    have hlen : (buildZ (liftE m x y) k).length ≤ 1099511627776 := by rw [buildZ_length]; omega
    have wy1 := World.block_lt_of_cell? _ _ y0
    have wm1 := World.block_lt_of_cell? _ _ m0
    simp only at wy1 wm1
    have e1 := (hrow.cell wy1 dy).trans y0
    have e2 := (hrow.cell wm1 dm).trans m0
    have n1 : w.heap.size + 1 < wr.heap.size := by omega
    have n2 : cb < wr.heap.size := by omega
    have RY := Lib.hid (HY.out.rd hrow)
    clear hrow
    by_cases hlt : k < x.length
    · have hlti : (k : Int) < (x.length : Int) := by omega
      have cX := (World.cell?_of_block (w := w3) (a := ⟨bX, fX + k, none⟩) (Hrow.out.block (k := bX) (by omega) (by omega))).trans ((B3.out.cell (p := ⟨bX, fX + k, none⟩) hbX).trans (HcX.out k hlt))
      have Hn := Lib.hid (show buildZ (liftE m x y) k ++ [x.getD k 0 + m * y.getD k 0] = buildZ (liftE m x y) (k + 1) from buildZ_succ _ k)
      have bd1 := HXb.out k
      have bd2 := HYb.out k
      have Hy1 := Lib.hid (atZ_nat y k)
      generalize x.getD k 0 = X at *
      generalize y.getD k 0 = Y at *
      have hp0 : 0 ≤ m * Y := Int.mul_nonneg (by omega) bd2.1
      have hp1 : m * Y ≤ 13 * 1000 := Int.mul_le_mul hm2.2 bd2.2 bd2.1 (by omega)
      have hw1 : IntKind.i64.wrap (m * Y) = m * Y := IntWalk.i64_in _ ⟨by omega, by omega⟩
      have hw2 : IntKind.i64.wrap (X + m * Y) = X + m * Y := IntWalk.i64_in _ ⟨by omega, by omega⟩
      clear y0 m0
      go_wp2_with fail
      go_region_held3 (fun w' => w'.cell? ⟨w.heap.size + 1, 0, none⟩ = some (.slice pY y.length qY) ∧ w'.cell? ⟨cb, 0, none⟩ = some (.int .i64 m))
        (((try dsimp only); (try go_split_ands); refine ⟨?_, ?_⟩ <;> (first | assumption | (rw [World.cell?_of_block (hn1 _ wy1 dy)]; assumption) | (rw [World.cell?_of_block (hn1 _ wm1 dm)]; assumption)  | (refine (((Below.refl _ _).alloc (Nat.le_refl _) _).cell (by first | omega | (simp <;> omega))).trans (by assumption)) | (go_keep; done))))
        (first
          | (go_at_call 89; ((with_reducible refine (integerAt_impl _ y k _ (RY.out.below (by (repeat' (first | (with_reducible exact Below.refl _ _) | (with_reducible assumption) | (with_reducible refine Below.alloc ?_ ?_ _) | (with_reducible refine Below.setCell ?_ ?_ _) | (with_reducible refine Below.drew ?_) | (with_reducible refine Below.via (by assumption) ?_ ?_) | go_size)))) (by omega)).mono ?_); rintro e w' ⟨rfl, rfl⟩; rw [Hy1.out]))
          | (refine step_pushZ (W := w3) (g0 := w.heap.size + 1 + 1 + 1) (zs := buildZ (liftE m x y) k) (y := X + m * Y) rfl _ _ rfl int64S_under (Hrow.out.below (by (repeat' (first | (with_reducible exact Below.refl _ _) | (with_reducible assumption) | (with_reducible refine Below.alloc ?_ ?_ _) | (with_reducible refine Below.setCell ?_ ?_ _) | (with_reducible refine Below.drew ?_) | (with_reducible refine Below.via (by assumption) ?_ ?_) | go_size)))) hlen (by first | omega | (simp; omega)) rfl _ rfl (by go_simp) ?_; intro v1 w9 hr1 hn1))
      go_wp2_with fail
      go_roundw
      case rel => exact ⟨k + 1, by omega, by go_num, by rw [← Hn.out]; exact hr1⟩
      case measure => simp [intOf]; omega
    · obtain rfl : k = x.length := by omega
      have x7r := (Hrow.out.cell l73 (by omega)).trans x7
      have y7r := (Hrow.out.frozen l73 (by omega)).trans y7
      have l7r : w.heap.size + 1 + 1 < wr.heap.size := by omega
      have Bwr := Lib.hid (B3.out.trans (Hrow.out.only.toBelow (by omega) (by omega)))
      have Ho5 := Lib.hid Hrow.out.row.own
      obtain ⟨p5, n5, rfl⟩ := Hrow.out.row.own.rd.shape
      clear e1 e2 n1 n2 y0 m0 x7 y7 Hrow
      go_wp2_with fail
      (try simp only [Exit.inBlock, Exit.then]); refine bodyPost_ret (by simp [results, Try.results90, go_sem, *]; try rfl) rfl ?_
      exact ⟨_, rfl, OwI.mono (B := w.heap.size + 1 + 1 + 1) (OwI.setCell Ho5.out (a := ⟨w.heap.size + 1 + 1, 0, none⟩) (by simp only; omega) _) (by omega), by have h := Bwr.out; (repeat' (first | (with_reducible exact Below.refl _ _) | (with_reducible assumption) | (with_reducible refine Below.alloc ?_ ?_ _) | (with_reducible refine Below.setCell ?_ ?_ _) | (with_reducible refine Below.drew ?_) | (with_reducible refine Below.via (by assumption) ?_ ?_) | go_size))⟩

end Go.Proofs.Ytlnjkjogedbhfaa
