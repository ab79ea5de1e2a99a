/- FactorsOver of the program. Conditions: lengths of at most 2^40. -/
import Derived.Test.YtlnjkjogedbhfaaI60
import Derived.Test.YtlnjkjogedbhfaaIWs
namespace Go.Proofs.Ytlnjkjogedbhfaa
open Go Go.RowKit
set_option linter.unusedSimpArgs false
set_option linter.unusedVariables false

set_option maxRecDepth 100000 in
set_option maxHeartbeats 4000000 in
theorem FactorsOver_impl (va : Value) (a : List Int) (m : Int) (w : World) (ha : RdI w va a) (hla : a.length ≤ 1099511627776) : Calls Try.prog 48 #[.agg #[va], .int .i64 m] w (RetWs (facR m a) w) := by
  have Ha := Lib.hid ha
  obtain ⟨aoa, ca, rfl⟩ := ha.shape
  clear ha
  cases hq : overB m a
  · have Ho := Lib.hid (show facR m a = none by unfold facR facOk; rw [hq]; rfl)
    have Hq := Lib.hid (show areOverB m [a] = false by rw [areOverB_one]; exact hq)
    clear hq
    go_enter Try.func48, Try.ntmps48
    go_wp2_with fail
    (go_at_call 78; ((with_reducible refine (areOver_impl _ [a] m _ (RdWs.lit1 (by simp) (Ha.out.below (by (repeat' (first | (with_reducible exact Below.refl _ _) | (with_reducible assumption) | (with_reducible refine Below.alloc ?_ ?_ _) | (with_reducible refine Below.setCell ?_ ?_ _) | (with_reducible refine Below.drew ?_) | (with_reducible refine Below.via (by assumption) ?_ ?_) | go_size))))) (by simp) (by intro i; rcases i with _ | i <;> simp; omega)).mono ?_); rintro e w1 ⟨rfl, hb1⟩))
    rw [Hq.out]
    have x1 := (hb1.cell (p := ⟨w.heap.size, 0, none⟩) (by simp; omega)).trans (show ((w.alloc (.cells #[.slice aoa a.length ca] 27)).alloc (.cells #[.slice aoa a.length ca] 27)).cell? ⟨w.heap.size, 0, none⟩ = some (.slice aoa a.length ca) by go_simp)
    have z1 := hb1.size
    simp only [World.size_alloc] at z1
    have l1 : w.heap.size < w1.heap.size := by omega
    go_wp2_with fail
    go_ret2
    rw [Ho.out]
    exact ⟨_, rfl, .inl ⟨rfl, rfl⟩, by (repeat' (first | (with_reducible exact Below.refl _ _) | (with_reducible assumption) | (with_reducible refine Below.alloc ?_ ?_ _) | (with_reducible refine Below.setCell ?_ ?_ _) | (with_reducible refine Below.drew ?_) | (with_reducible refine Below.via (by assumption) ?_ ?_) | go_size))⟩
  have Hq := Lib.hid (show areOverB m [a] = true by rw [areOverB_one]; exact hq)
  cases hin : inB 1 ((a.length : Int) - 1) 6
  · have Ho := Lib.hid (show facR m a = none by
      unfold facR facOk
      rw [hq]
      simp only [inB, Bool.and_eq_false_iff, decide_eq_false_iff_not] at hin
      rw [if_neg]
      simp only [Bool.true_and, Bool.and_eq_true, decide_eq_true_eq]
      omega)
    have Hin := Lib.hid hin
    clear hq hin
    go_enter Try.func48, Try.ntmps48
    go_wp2_with fail
    (go_at_call 78; ((with_reducible refine (areOver_impl _ [a] m _ (RdWs.lit1 (by simp) (Ha.out.below (by (repeat' (first | (with_reducible exact Below.refl _ _) | (with_reducible assumption) | (with_reducible refine Below.alloc ?_ ?_ _) | (with_reducible refine Below.setCell ?_ ?_ _) | (with_reducible refine Below.drew ?_) | (with_reducible refine Below.via (by assumption) ?_ ?_) | go_size))))) (by simp) (by intro i; rcases i with _ | i <;> simp; omega)).mono ?_); rintro e w1 ⟨rfl, hb1⟩))
    rw [Hq.out]
    have x1 := (hb1.cell (p := ⟨w.heap.size, 0, none⟩) (by simp; omega)).trans (show ((w.alloc (.cells #[.slice aoa a.length ca] 27)).alloc (.cells #[.slice aoa a.length ca] 27)).cell? ⟨w.heap.size, 0, none⟩ = some (.slice aoa a.length ca) by go_simp)
    have z1 := hb1.size
    simp only [World.size_alloc] at z1
    have l1 : w.heap.size < w1.heap.size := by omega
    go_wp2_with fail
    (go_at_call 79; ((with_reducible refine (degree_exact aoa a.length ca _ (by omega)).mono ?_); rintro e w' ⟨rfl, rfl⟩))
    go_wp2_with fail
    (go_at_call 95; ((with_reducible refine (within_impl _ _ _ _).mono ?_); rintro e w' ⟨rfl, rfl⟩))
    rw [Hin.out]
    go_wp2_with fail
    go_ret2
    rw [Ho.out]
    exact ⟨_, rfl, .inl ⟨rfl, rfl⟩, by (repeat' (first | (with_reducible exact Below.refl _ _) | (with_reducible assumption) | (with_reducible refine Below.alloc ?_ ?_ _) | (with_reducible refine Below.setCell ?_ ?_ _) | (with_reducible refine Below.drew ?_) | (with_reducible refine Below.via (by assumption) ?_ ?_) | go_size))⟩
  have hok : facOk m a = true := by
    unfold facOk
    rw [hq]
    simp only [inB, Bool.and_eq_true, decide_eq_true_eq] at hin ⊢
    exact ⟨⟨(by first | rfl | trivial), by omega⟩, by omega⟩
  have Ho := Lib.hid (show facR m a = some (facL m a) by rw [facR, if_pos hok])
  have hF := facL_all hok
  obtain ⟨hm, ho, _⟩ := overB_ovr hq
  have hm2 := primeB_bd hm
  have Hm := Lib.hid hm
  have Hov := Lib.hid ho
  have Hin := Lib.hid hin
  have hl7 := hF.l7
  have hl2 := hF.l2
  have Hmq := Lib.hid (monic_eq hm ho.ov ho.trd)
  clear hq hin hok hm ho
  obtain ⟨M, rfl⟩ : ∃ M : Nat, m = M := ⟨m.toNat, by omega⟩
  rw [Int.toNat_natCast] at hF
  have HF := Lib.hid hF
  clear hF
  go_enter Try.func48, Try.ntmps48
  go_wp2_with fail
  (go_at_call 78; ((with_reducible refine (areOver_impl _ [a] (M : Int) _ (RdWs.lit1 (by simp) (Ha.out.below (by (repeat' (first | (with_reducible exact Below.refl _ _) | (with_reducible assumption) | (with_reducible refine Below.alloc ?_ ?_ _) | (with_reducible refine Below.setCell ?_ ?_ _) | (with_reducible refine Below.drew ?_) | (with_reducible refine Below.via (by assumption) ?_ ?_) | go_size))))) (by simp) (by intro i; rcases i with _ | i <;> simp; omega)).mono ?_); rintro e w1 ⟨rfl, hb1⟩))
  rw [Hq.out]
  have x1 := (hb1.cell (p := ⟨w.heap.size, 0, none⟩) (by simp; omega)).trans (show ((w.alloc (.cells #[.slice aoa a.length ca] 27)).alloc (.cells #[.slice aoa a.length ca] 27)).cell? ⟨w.heap.size, 0, none⟩ = some (.slice aoa a.length ca) by go_simp)
  have z1 := hb1.size
  simp only [World.size_alloc] at z1
  have l1 : w.heap.size < w1.heap.size := by omega
  go_wp2_with fail
  (go_at_call 79; ((with_reducible refine (degree_exact aoa a.length ca _ (by omega)).mono ?_); rintro e w' ⟨rfl, rfl⟩))
  go_wp2_with fail
  (go_at_call 95; ((with_reducible refine (within_impl _ _ _ _).mono ?_); rintro e w' ⟨rfl, rfl⟩))
  rw [Hin.out]
  have l1b : w.heap.size < (w1.heap.size + 1) := by omega
  go_wp2_with fail
  (go_at_call 119; ((with_reducible refine (monic_impl _ a M _ (Ha.out.below (by (repeat' (first | (with_reducible exact Below.refl _ _) | (with_reducible assumption) | (with_reducible refine Below.alloc ?_ ?_ _) | (with_reducible refine Below.setCell ?_ ?_ _) | (with_reducible refine Below.drew ?_) | (with_reducible refine Below.via (by assumption) ?_ ?_) | go_size)))) Hov.out.ne (by omega) Hov.out.ov Hm.out).mono ?_); rintro e w2 ⟨v2, rfl, o2, hb2⟩))
  rw [Hmq.out] at o2
  have O2 := Lib.hid o2
  have z2 := hb2.size
  simp only [World.size_alloc] at z2
  obtain ⟨p2, n2, rfl⟩ := o2.rd.shape
  clear o2
  go_wp2_with fail
  (go_at_call 118; ((with_reducible refine (factorsOver_impl _ a (monicS M a) M _ (facL M a) _ O2.out (by simp only [World.size_alloc]; omega) HF.out rfl).mono ?_); rintro e w3 ⟨v3, rfl, o3, hb3⟩))
  have O3 := Lib.hid (o3.mono (lo' := w.heap.size) (by simp only [World.size_alloc]; omega))
  obtain ⟨p3, n3, rfl⟩ := o3.rd.shape
  clear o3
  go_wp2_with fail
  go_ret2
  rw [Ho.out]
  exact ⟨_, rfl, O3.out, by (repeat' (first | (with_reducible exact Below.refl _ _) | (with_reducible assumption) | (with_reducible refine Below.alloc ?_ ?_ _) | (with_reducible refine Below.setCell ?_ ?_ _) | (with_reducible refine Below.drew ?_) | (with_reducible refine Below.via (by assumption) ?_ ?_) | go_size))⟩

end Go.Proofs.Ytlnjkjogedbhfaa
