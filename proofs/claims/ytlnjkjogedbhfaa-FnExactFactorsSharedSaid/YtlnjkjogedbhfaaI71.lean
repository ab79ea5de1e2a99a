/- FactorsShared of the program. Conditions: lengths of at most 2^40. -/
import Derived.Test.YtlnjkjogedbhfaaI61
import Derived.Test.YtlnjkjogedbhfaaI70
import Derived.Deep.DeepMust
namespace Go.Proofs.Ytlnjkjogedbhfaa
open Go Go.RowKit
set_option linter.unusedSimpArgs false
set_option linter.unusedVariables false

/-- The factors of each of a list. -/
noncomputable def facS (m wk : Int) (ls : List (List Int)) : Option (List (List (List Int))) := if (decide (ls.length ≤ 8) && primeB m && inB 1 wk 8 && ls.all (facOk m)) then some (ls.map (facL m)) else none
theorem take_snocD {ls : List (List Int)} {k : Nat} (h : k < ls.length) : ls.take (k + 1) = ls.take k ++ [ls.getD k []] := by
  rw [List.take_succ_eq_append_getElem h]
  simp [List.getD, h]
theorem OwWs.lower {w : World} {lo lo2 hi : Nat} {v : Value} {ls : List (List Int)} (h : OwWs w lo hi v ls) (h1 : lo2 ≤ lo) : OwWs w lo2 hi v ls := by
  rcases h with h | ⟨g, cap, f, c, rfl, hc, q1, q2, q3, he, hx⟩
  · exact .inl h
  · exact .inr ⟨g, cap, f, c, rfl, hc, by omega, q2, q3, fun i hi => ⟨(he i hi).1.mono h1, (he i hi).2⟩, hx⟩
theorem RdWs.shape' {w : World} {v : Value} {ls : List (List Int)} (h : RdWs w v ls) : ∃ ao cap, v = .slice ao ls.length cap := by
  obtain ⟨ao, cap, hv, _⟩ := h
  exact ⟨ao, cap, hv⟩
theorem wholeSS_under : Try.prog.underlying 62 = some (.slice 52) := Try.underlying62
theorem workers_impl (n : Int) (w : World) : Calls Try.prog 122 #[.int .i64 n] w fun e w' => e = .returned (.bool (inB 1 n 8)) ∧ w = w' := by
  go_enter Try.func122, Try.ntmps122
  go_wp2_with ((go_at_call 95; ((with_reducible refine (within_impl _ _ _ _).mono ?_); rintro e w' ⟨rfl, rfl⟩)))
  go_ret
  exact ⟨rfl, rfl⟩

set_option maxRecDepth 100000 in
set_option maxHeartbeats 4000000 in
theorem FactorsShared_impl (v : Value) (ls : List (List Int)) (m wk : Int) (w : World) (hv : RdWs w v ls) (hl : ls.length ≤ 1099511627776) (hl2 : ∀ i, (ls.getD i []).length ≤ 1099511627776) : Calls Try.prog 52 #[v, .int .i64 m, .int .i64 wk] w (RetSS (facS m wk ls) w) := by
  have Hv := Lib.hid hv
  have Hl2 := Lib.hid hl2
  obtain ⟨aov, cv, rfl⟩ := hv.shape'
  clear hv hl2
  by_cases h8 : (8 : Int) < (ls.length : Int)
  · have Ho := Lib.hid (show facS m wk ls = none by unfold facS; rw [if_neg (by simp; omega)])
    go_enter Try.func52, Try.ntmps52
    go_wp2_with fail
    go_ret2
    rw [Ho.out]
    exact ⟨_, rfl, .inl ⟨rfl, rfl⟩, by (repeat' (first | (with_reducible exact Below.refl _ _) | (with_reducible assumption) | (with_reducible refine Below.alloc ?_ ?_ _) | (with_reducible refine Below.setCell ?_ ?_ _) | (with_reducible refine Below.drew ?_) | (with_reducible refine Below.via (by assumption) ?_ ?_) | go_size))⟩
  cases hp : primeB m
  · have Ho := Lib.hid (show facS m wk ls = none by unfold facS; rw [if_neg (by simp [hp])])
    have Hp := Lib.hid hp
    clear hp
    go_enter Try.func52, Try.ntmps52
    go_wp2_with fail
    (go_at_call 121; ((with_reducible refine (isPrime_impl m _).mono ?_); rintro e w1 ⟨rfl, hb1⟩))
    rw [Hp.out]
    go_wp2_with fail
    go_ret2
    rw [Ho.out]
    exact ⟨_, rfl, .inl ⟨rfl, rfl⟩, by (repeat' (first | (with_reducible exact Below.refl _ _) | (with_reducible assumption) | (with_reducible refine Below.alloc ?_ ?_ _) | (with_reducible refine Below.setCell ?_ ?_ _) | (with_reducible refine Below.drew ?_) | (with_reducible refine Below.via (by assumption) ?_ ?_) | go_size))⟩
  cases hw : inB 1 wk 8
  · have Ho := Lib.hid (show facS m wk ls = none by unfold facS; rw [if_neg (by simp [hw])])
    have Hp := Lib.hid hp
    have Hw := Lib.hid hw
    clear hp hw
    go_enter Try.func52, Try.ntmps52
    go_wp2_with fail
    (go_at_call 121; ((with_reducible refine (isPrime_impl m _).mono ?_); rintro e w1 ⟨rfl, hb1⟩))
    rw [Hp.out]
    go_wp2_with fail
    (go_at_call 122; ((with_reducible refine (workers_impl wk _).mono ?_); rintro e w' ⟨rfl, rfl⟩))
    rw [Hw.out]
    go_wp2_with fail
    go_ret2
    rw [Ho.out]
    exact ⟨_, rfl, .inl ⟨rfl, rfl⟩, by (repeat' (first | (with_reducible exact Below.refl _ _) | (with_reducible assumption) | (with_reducible refine Below.alloc ?_ ?_ _) | (with_reducible refine Below.setCell ?_ ?_ _) | (with_reducible refine Below.drew ?_) | (with_reducible refine Below.via (by assumption) ?_ ?_) | go_size))⟩
  have Hp := Lib.hid hp
  have Hw := Lib.hid hw
  clear hp hw
  have hl8 : ls.length ≤ 8 := by omega
  go_enter Try.func52, Try.ntmps52
  go_wp2_with fail
  (go_at_call 121; ((with_reducible refine (isPrime_impl m _).mono ?_); rintro e w1 ⟨rfl, hb1⟩))
  rw [Hp.out]
  go_wp2_with fail
  (go_at_call 122; ((with_reducible refine (workers_impl wk _).mono ?_); rintro e w' ⟨rfl, rfl⟩))
  rw [Hw.out]
  have Hb1 := Lib.hid hb1
  have z1 := hb1.size
  have HRow0 := Lib.hid (RowSS.empty (w := w1) (B := w.heap.size) rfl z1)
  clear hb1
  go_wp2_with fail
  go_loopw [8, 29] (fun ov iv wr => ∃ k : Nat, k ≤ ls.length ∧ iv = .int .i64 k ∧ (ls.take k).all (facOk m) = true ∧ RowSS wr w.heap.size ov ((ls.take k).map (facL m)) ∧ Below w.heap.size w wr) (fun _ iv _ => ls.length - (intOf iv).toNat)
  case atStart => exact ⟨0, Nat.zero_le _, rfl, by simp, by simpa using HRow0.out, by have h := Hb1.out; (repeat' (first | (with_reducible exact Below.refl _ _) | (with_reducible assumption) | (with_reducible refine Below.alloc ?_ ?_ _) | (with_reducible refine Below.setCell ?_ ?_ _) | (with_reducible refine Below.drew ?_) | (with_reducible refine Below.via (by assumption) ?_ ?_) | go_size))⟩
  case round =>
    obtain ⟨k, hk, rfl, hall, hrow, hbel⟩ := hrel
    have Hall := Lib.hid hall
    have Hrow := Lib.hid hrow
    have Hbel := Lib.hid hbel
    have hsz := hbel.size
    clear hall hrow hbel
    by_cases hlt : k < ls.length
    · have hlti : (k : Int) < (ls.length : Int) := by omega
      obtain ⟨b, off, cap, hve, _, hcs⟩ := (Hv.out.below Hbel.out).open (List.ne_nil_of_length_pos (by omega))
      simp only [Value.slice.injEq, true_and] at hve
      obtain ⟨rfl, rfl⟩ := hve
      obtain ⟨u, hc, hr⟩ := hcs k hlt
      obtain ⟨p, q, rfl⟩ := hr.shape
      have HR := Lib.hid hr
      have hx2 := Hl2.out k
      have Htk := Lib.hid (take_snocD hlt)
      clear hcs hr
      generalize ls.getD k [] = x at *
      go_wp2_with fail
      (go_at_call 48; ((with_reducible refine (FactorsOver_impl _ x m _ (HR.out.below (by (repeat' (first | (with_reducible exact Below.refl _ _) | (with_reducible assumption) | (with_reducible refine Below.alloc ?_ ?_ _) | (with_reducible refine Below.setCell ?_ ?_ _) | (with_reducible refine Below.drew ?_) | (with_reducible refine Below.via (by assumption) ?_ ?_) | go_size)))) hx2).mono ?_); rintro e w2 ⟨v2, rfl, o2, b2⟩))
      cases hok : facOk m x
      · have Hn := Lib.hid (show facR m x = none by rw [facR, hok]; rfl)
        rw [Hn.out]
        have Ho := Lib.hid (show facS m wk ls = none by
          unfold facS
          rw [if_neg]
          have h1 : ls.all (facOk m) = false := by
            rw [← List.take_append_drop (k + 1) ls, List.all_append, Htk.out]
            simp [hok]
          simp [h1])
        have B2 := Lib.hid (show Below w.heap.size w w2 from Hbel.out.trans ((show Below wr.heap.size wr w2 by (repeat' (first | (with_reducible exact Below.refl _ _) | (with_reducible assumption) | (with_reducible refine Below.alloc ?_ ?_ _) | (with_reducible refine Below.setCell ?_ ?_ _) | (with_reducible refine Below.drew ?_) | (with_reducible refine Below.via (by assumption) ?_ ?_) | go_size))).mono hsz))
        clear o2 b2 hok
        go_wp2_with fail
        go_ret2
        rw [Ho.out]
        exact ⟨_, rfl, .inl ⟨rfl, rfl⟩, B2.out⟩
      · have Hn := Lib.hid (show facR m x = some (facL m x) by rw [facR, if_pos hok])
        rw [Hn.out] at o2
        rw [Hn.out]
        have O2 := Lib.hid o2
        obtain ⟨p2, q2, rfl⟩ := o2.rd.shape'
        have B2 := Lib.hid (show Below wr.heap.size wr w2 by (repeat' (first | (with_reducible exact Below.refl _ _) | (with_reducible assumption) | (with_reducible refine Below.alloc ?_ ?_ _) | (with_reducible refine Below.setCell ?_ ?_ _) | (with_reducible refine Below.drew ?_) | (with_reducible refine Below.via (by assumption) ?_ ?_) | go_size)))
        have z2 := B2.out.size
        have hpl : ((ls.take k).map (facL m)).length ≤ 1048576 := by rw [List.length_map, List.length_take]; omega
        have Hall2 := Lib.hid (show (ls.take (k + 1)).all (facOk m) = true by rw [Htk.out, List.all_append, Hall.out]; simp [hok])
        have Hmap := Lib.hid (show (ls.take (k + 1)).map (facL m) = (ls.take k).map (facL m) ++ [facL m x] by rw [Htk.out, List.map_append]; rfl)
        clear o2 b2 hok
        generalize (ls.take k).map (facL m) = acc at *
        go_wp2_with (at_builtin; go_must (refine wpList_pushSS Hrow.out B2.out (O2.out.lower (by simp <;> omega)) rfl _ _ rfl wholeSS_under hpl hsz rfl rfl (by simp) ?_); intro v9 w9 hr9 hb9)
        go_roundw
        case rel => exact ⟨k + 1, by omega, by go_num, Hall2.out, by rw [Hmap.out]; exact hr9, (Hbel.out.trans (B2.out.mono hsz)).trans hb9⟩
        case measure => simp [intOf]; omega
    · obtain rfl : k = ls.length := by omega
      have Ho := Lib.hid (show facS m wk ls = some (ls.map (facL m)) by
        have h1 := Hall.out
        rw [List.take_length] at h1
        unfold facS
        rw [if_pos]
        simp [hl8, Hp.out, Hw.out, h1])
      have Hr := Lib.hid (show RowSS wr w.heap.size _ (ls.map (facL m)) by have h := Hrow.out; rw [List.take_length] at h; exact h)
      go_wp2_with fail
      go_ret2
      rw [Ho.out]
      exact ⟨_, rfl, Hr.out.own, Hbel.out⟩

end Go.Proofs.Ytlnjkjogedbhfaa
