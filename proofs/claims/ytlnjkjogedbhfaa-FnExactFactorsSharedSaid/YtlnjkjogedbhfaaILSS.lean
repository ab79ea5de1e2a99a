/- FnExactFactorsShared returns true for all arguments. Conditions: none. -/
import Derived.Test.YtlnjkjogedbhfaaI72
import Derived.Test.YtlnjkjogedbhfaaI74
import Derived.Test.YtlnjkjogedbhfaaI76
namespace Go.Proofs.Ytlnjkjogedbhfaa
open Go Go.RowKit
set_option linter.unusedSimpArgs false
set_option linter.unusedVariables false

theorem facS_sml (m wk : Int) (ls : List (List Int)) : SmlSS ((facS m wk ls).getD []) := by
  unfold facS
  split
  · rename_i h
    simp only [Bool.and_eq_true, decide_eq_true_eq] at h
    obtain ⟨⟨⟨h8, _⟩, _⟩, hall⟩ := h
    simp only [Option.getD_some]
    refine ⟨by rw [List.length_map]; omega, fun i => ?_⟩
    by_cases hi : i < ls.length
    · have he : (ls.map (facL m)).getD i [] = facL m (ls.getD i []) := by simp [List.getD, hi]
      have hok : facOk m (ls.getD i []) = true := by
        rw [List.all_eq_true] at hall
        exact hall _ (by simp [List.getD, hi])
      have h1 := facR_len m (ls.getD i [])
      rw [facR, if_pos hok] at h1
      simp only [Option.getD_some] at h1
      rw [he]
      exact ⟨by omega, fun j => by have := h1.2 j; omega⟩
    · have he : (ls.map (facL m)).getD i [] = [] := by simp [List.getD, List.getElem?_eq_none (show ls.length ≤ i by omega)]
      rw [he]
      exact ⟨by simp, fun j => by simp⟩
  · exact ⟨by simp, fun i => ⟨by simp, fun j => by simp⟩⟩
theorem OwSS.shape {w : World} {lo hi : Nat} {v : Value} {lss : List (List (List Int))} (h : OwSS w lo hi v lss) : ∃ ao cap, v = .slice ao lss.length cap := h.rd.shape
theorem OwWr.only {w w' : World} {lo hi lo2 hi2 : Nat} {v : Value} {ls : List (List Int)} (h : OwWr w lo hi v ls) (ho : Only lo2 hi2 w w') (hd : hi ≤ lo2 ∨ hi2 ≤ lo) : OwWr w' lo hi v ls := by
  obtain ⟨g, cap, L, H, u, rfl, hc, q1, q2, hg, he, hx⟩ := h
  refine ⟨g, cap, L, H, u, rfl, hc, q1, q2, Nat.lt_of_lt_of_le hg ho.size, ⟨fun i hi => (he.own i hi).kept fun k r1 r2 hk => ho.block k hk (by have := he.lo i hi; have := he.hi i hi; omega), he.lo, he.hi, he.g, he.apart⟩, fun i hi => ?_⟩
  rw [ho.cell (p := ⟨g, i, none⟩) hg (by simp only; omega)]
  exact hx i hi

set_option maxRecDepth 100000 in
set_option maxHeartbeats 8000000 in
theorem law_FactorsShared (va : Value) (a : List (List Int)) (m wk : Int) (w : World) (ha : RdWs w va a) : Calls Try.prog 11 #[va, .int .i64 m, .int .i64 wk] w (RB true w) := by
  have Ha := Lib.hid ha
  obtain ⟨aoa, ca, rfl⟩ := ha.shape'
  clear ha
  have HS := Lib.hid (facS_sml m wk a)
  generalize hRe : facS m wk a = R at *
  have HRe := Lib.hid hRe
  clear hRe
  go_enter Try.func11, Try.ntmps11
  go_wp2_with fail
  (go_at_call 49; ((with_reducible refine (sz_wholeS _ a _ Ha.out).mono ?_); rintro e w1 ⟨r, rfl, hr, hb1⟩))
  have BB := Lib.hid hb1
  have z1 := hb1.size
  clear hb1
  rcases hr with hr | ⟨hr, hla, hpa, hla2⟩
  · go_wp2_with fail
    go_ret
    exact ⟨rfl, BB.out⟩
  have hrn : ¬ r < 0 := by omega
  have Hla2 := Lib.hid hla2
  have Hpa := Lib.hid hpa
  clear hla2 hpa
  go_wp2_with fail
  (go_at_call 51; ((with_reducible refine (to_wholeS _ a _ (Ha.out.below BB.out) hla Hla2.out).mono ?_); rintro e w2 ⟨vw2, rfl, ow2, bw2⟩))
  have XS := Lib.hid ow2
  obtain ⟨pw2, qw2, rfl⟩ := ow2.rd.shape'
  clear ow2
  have zz_w2 := bw2.size
  replace BB := Lib.hid (show Below w.heap.size w w2 from BB.out.trans (bw2.mono BB.out.size))
  clear bw2
  go_wp2_with fail
  (go_at_call 50; ((with_reducible refine (FactorsShared_spec _ a m wk _ XS.out.rd (by omega) (fun i => by have := Hla2.out i; omega)).mono ?_); rintro e w3 ⟨vw3, rfl, ow3, bw3⟩))
  rw [HRe.out] at ow3
  rw [HRe.out]
  have W0 := Lib.hid ow3
  obtain ⟨pw3, qw3, rfl⟩ := ow3.shape
  clear ow3
  replace XS := Lib.hid (XS.out.below bw3)
  have zz_w3 := bw3.size
  replace BB := Lib.hid (show Below w.heap.size w w3 from BB.out.trans (bw3.mono BB.out.size))
  clear bw3
  go_wp2_with fail
  (go_at_call 51; ((with_reducible refine (to_wholeS _ a _ (Ha.out.below BB.out) hla Hla2.out).mono ?_); rintro e w4 ⟨vw4, rfl, ow4, bw4⟩))
  have X0 := Lib.hid ow4
  obtain ⟨pw4, qw4, rfl⟩ := ow4.rd.shape'
  clear ow4
  replace XS := Lib.hid (XS.out.below bw4)
  replace W0 := Lib.hid (W0.out.below bw4)
  have zz_w4 := bw4.size
  replace BB := Lib.hid (show Below w.heap.size w w4 from BB.out.trans (bw4.mono BB.out.size))
  clear bw4
  go_wp2_with fail
  (go_at_call 52; ((with_reducible refine (FactorsShared_impl _ a m wk _ X0.out.rd (by omega) (fun i => by have := Hla2.out i; omega)).mono ?_); rintro e w5 ⟨vw5, rfl, ow5, bw5⟩))
  rw [HRe.out] at ow5
  rw [HRe.out]
  have G0 := Lib.hid ow5
  obtain ⟨pw5, qw5, rfl⟩ := ow5.shape
  clear ow5
  replace XS := Lib.hid (XS.out.below bw5)
  replace W0 := Lib.hid (W0.out.below bw5)
  replace X0 := Lib.hid (X0.out.below bw5)
  have zz_w5 := bw5.size
  replace BB := Lib.hid (show Below w.heap.size w w5 from BB.out.trans (bw5.mono BB.out.size))
  clear bw5
  have hxx : (R.isSome != R.isSome) = false := by simp
  go_wp2_with fail
  (go_at_call 53; ((with_reducible refine (eq_wholeSS _ _ (R.getD []) _ G0.out.rd W0.out.rd HS.out).mono ?_); rintro e w6 ⟨rfl, bw6⟩))
  replace XS := Lib.hid (XS.out.below bw6)
  replace W0 := Lib.hid (W0.out.below bw6)
  replace X0 := Lib.hid (X0.out.below bw6)
  replace G0 := Lib.hid (G0.out.below bw6)
  have zz_w6 := bw6.size
  replace BB := Lib.hid (show Below w.heap.size w w6 from BB.out.trans (bw6.mono BB.out.size))
  clear bw6
  go_wp2_with fail
  (go_at_call 51; ((with_reducible refine (to_wholeS _ a _ (Ha.out.below BB.out) hla Hla2.out).mono ?_); rintro e w7 ⟨vw7, rfl, ow7, bw7⟩))
  have XC := Lib.hid ow7
  obtain ⟨pw7, qw7, rfl⟩ := ow7.rd.shape'
  clear ow7
  replace XS := Lib.hid (XS.out.below bw7)
  replace W0 := Lib.hid (W0.out.below bw7)
  replace X0 := Lib.hid (X0.out.below bw7)
  replace G0 := Lib.hid (G0.out.below bw7)
  have zz_w7 := bw7.size
  replace BB := Lib.hid (show Below w.heap.size w w7 from BB.out.trans (bw7.mono BB.out.size))
  clear bw7
  go_wp2_with fail
  (go_at_call 44; ((with_reducible refine (eq_wholeS _ _ a _ X0.out.rd XC.out.rd (by omega) (fun i => by have := Hla2.out i; omega)).mono ?_); rintro e w8 ⟨rfl, bw8⟩))
  replace XS := Lib.hid (XS.out.below bw8)
  replace W0 := Lib.hid (W0.out.below bw8)
  replace X0 := Lib.hid (X0.out.below bw8)
  replace G0 := Lib.hid (G0.out.below bw8)
  replace XC := Lib.hid (XC.out.below bw8)
  have zz_w8 := bw8.size
  replace BB := Lib.hid (show Below w.heap.size w w8 from BB.out.trans (bw8.mono BB.out.size))
  clear bw8
  clear XS XC
  go_wp2_with fail
  (go_at_call 45; ((with_reducible refine (mark_wholeR _ a w3.heap.size w4.heap.size 1 _ X0.out hla Hpa.out Hla2.out (by omega) (by omega)).mono ?_); rintro e w9 ⟨rfl, hm1⟩))
  have hk9 : ¬ ((1 : Int) + (preL a a.length : Int) < 0) := by omega
  clear X0
  replace W0 := Lib.hid (W0.out.only hm1 (by omega))
  replace G0 := Lib.hid (G0.out.only hm1 (by omega))
  have zz_w9 := hm1.size
  replace BB := Lib.hid (show Below w.heap.size w w9 from BB.out.trans (hm1.toBelow (by omega) (by omega)))
  clear hm1
  go_wp2_with fail
  (go_at_call 53; ((with_reducible refine (eq_wholeSS _ _ (R.getD []) _ G0.out.rd W0.out.rd HS.out).mono ?_); rintro e w10 ⟨rfl, bw10⟩))
  replace W0 := Lib.hid (W0.out.below bw10)
  replace G0 := Lib.hid (G0.out.below bw10)
  have zz_w10 := bw10.size
  replace BB := Lib.hid (show Below w.heap.size w w10 from BB.out.trans (bw10.mono BB.out.size))
  clear bw10
  go_wp2_with fail
  (go_at_call 54; ((with_reducible refine (mark_wholeSS _ (R.getD []) w4.heap.size w5.heap.size 1 _ G0.out HS.out (by omega) (by omega)).mono ?_); rintro e w11 ⟨rfl, om, hm2⟩))
  replace G0 := Lib.hid om
  clear om
  have hk8 : ¬ ((1 : Int) + (preSS (R.getD []) (R.getD []).length : Int) < 0) := by omega
  replace W0 := Lib.hid (W0.out.only hm2 (by omega))
  have zz_w11 := hm2.size
  replace BB := Lib.hid (show Below w.heap.size w w11 from BB.out.trans (hm2.toBelow (by omega) (by omega)))
  clear hm2
  go_wp2_with fail
  (go_at_call 55; ((with_reducible refine (held_wholeSS _ (R.getD []) 1 _ G0.out.rd HS.out (by omega) (by omega)).mono ?_); rintro e w' ⟨rfl, rfl⟩))
  go_wp2_with fail
  (go_at_call 51; ((with_reducible refine (to_wholeS _ a _ (Ha.out.below BB.out) hla Hla2.out).mono ?_); rintro e w12 ⟨vw12, rfl, ow12, bw12⟩))
  have X1 := Lib.hid ow12
  obtain ⟨pw12, qw12, rfl⟩ := ow12.rd.shape'
  clear ow12
  replace W0 := Lib.hid (W0.out.below bw12)
  replace G0 := Lib.hid (G0.out.below bw12)
  have zz_w12 := bw12.size
  replace BB := Lib.hid (show Below w.heap.size w w12 from BB.out.trans (bw12.mono BB.out.size))
  clear bw12
  go_wp2_with fail
  (go_at_call 52; ((with_reducible refine (FactorsShared_impl _ a m wk _ X1.out.rd (by omega) (fun i => by have := Hla2.out i; omega)).mono ?_); rintro e w13 ⟨vw13, rfl, ow13, bw13⟩))
  rw [HRe.out] at ow13
  rw [HRe.out]
  have H0 := Lib.hid ow13
  obtain ⟨pw13, qw13, rfl⟩ := ow13.shape
  clear ow13
  replace W0 := Lib.hid (W0.out.below bw13)
  replace G0 := Lib.hid (G0.out.below bw13)
  replace X1 := Lib.hid (X1.out.below bw13)
  have zz_w13 := bw13.size
  replace BB := Lib.hid (show Below w.heap.size w w13 from BB.out.trans (bw13.mono BB.out.size))
  clear bw13
  go_wp2_with fail
  (go_at_call 53; ((with_reducible refine (eq_wholeSS _ _ (R.getD []) _ H0.out.rd W0.out.rd HS.out).mono ?_); rintro e w14 ⟨rfl, bw14⟩))
  replace W0 := Lib.hid (W0.out.below bw14)
  replace G0 := Lib.hid (G0.out.below bw14)
  replace X1 := Lib.hid (X1.out.below bw14)
  replace H0 := Lib.hid (H0.out.below bw14)
  have zz_w14 := bw14.size
  replace BB := Lib.hid (show Below w.heap.size w w14 from BB.out.trans (bw14.mono BB.out.size))
  clear bw14
  go_wp2_with fail
  (go_at_call 55; ((with_reducible refine (held_wholeSS _ (R.getD []) 1 _ G0.out.rd HS.out (by omega) (by omega)).mono ?_); rintro e w' ⟨rfl, rfl⟩))
  go_wp2_with fail
  go_ret
  exact ⟨rfl, BB.out⟩

end Go.Proofs.Ytlnjkjogedbhfaa
