/- The values of a polynomial and of its slope, of the reference. Conditions: polynomials of 1 to 17 terms; what is narrowed fits float32. -/
import Derived.Test.YtalfkkagbajjcaaZ4
namespace Go.Proofs.Ytalfkkagbajjcaa
set_option linter.unusedSimpArgs false
set_option linter.unusedVariables false
open Go Go.RowKit

def valuesF (F : List C2) (z : C2) : (C2 × C2) × Bool :=
  if (polyAtF F z).2 = true then
    (if zeroC (polyAtF F z).1 = true then (((0, 0), (0, 0)), true)
    else if (slopePolyF F).2 = true then
      (if (polyAtF (slopePolyF F).1 z).2 = true then (((polyAtF F z).1, (polyAtF (slopePolyF F).1 z).1), true) else (((0, 0), (0, 0)), false))
    else (((0, 0), (0, 0)), false))
  else (((0, 0), (0, 0)), false)
def RetV (F : (C2 × C2) × Bool) (w : World) (e : Ending) (w' : World) : Prop :=
  ∃ a b c d, e = .returned (.tuple #[.complex .f32 a b, .complex .f32 c d, .complex .f32 0 0, .bool F.2]) ∧ nc (a, b) = F.1.1 ∧ nc (c, d) = F.1.2 ∧ Below w.heap.size w w'
theorem nc0 : nc (0, 0) = (0, 0) := by simp [nc, nrm0]

set_option maxRecDepth 100000 in
set_option maxHeartbeats 4000000 in
theorem values_spec (p : Nat) (v : Value) (rs : List C2) (z : C2) (w : World) (hp : w.cell? ⟨p, 0, none⟩ = some v) (hv : RdV w v (cx rs)) (h1 : 1 ≤ rs.length) (h2 : rs.length ≤ 17)
    (hs1 : safeN (rs.map nc) (nc z)) (hs2 : safeN (slopePolyF (rs.map nc)).1 (nc z)) :
    Calls Try.prog 76 #[.pointer (some ⟨p, 0, none⟩), .complex .f32 z.1 z.2, .bool false] w (RetV (valuesF (rs.map nc) (nc z)) w) := by
  have n0 := nc0
  have lp : p < w.heap.size := World.block_lt_of_cell? _ _ hp
  obtain ⟨ao, cap, rfl, _⟩ := hv.shape
  rw [cx_length] at hv hp
  have Hv := Lib.hid hv
  have Hs2 := Lib.hid hs2
  have HR := Lib.hid (show (slopePolyF (rs.map nc)).2 = true → 1 ≤ (slopePolyF (rs.map nc)).1.length from fun h => by
    unfold slopePolyF at h ⊢
    split
    · rename_i hh; rw [if_pos hh] at h; exact polyF_pos (slopeF_length _ (by simpa using h1)).1 h
    · rename_i hh; rw [if_neg hh] at h; cases h)
  have HR2 := Lib.hid (show (slopePolyF (rs.map nc)).1.length ≤ 17 from by
    unfold slopePolyF
    split
    · have h3 := polyF_le (F := slopeF (rs.map nc))
      have h4 := (slopeF_length (rs.map nc) (by simpa using h1)).2
      rw [List.length_map] at h4
      omega
    · simp)
  have HF := Lib.hid (show valuesF (rs.map nc) (nc z) = _ by unfold valuesF; rfl)
  rw [HF.out]
  have Pspec := Lib.hid (fun v w hv => polyAt_spec v rs z w hv h1 h2 (Lib.hid fun _ _ => hs1))
  have Sspec := Lib.hid (fun v w hv => slope_spec v rs w hv h1 h2)
  clear HF hv hs1 hs2
  generalize polyAtF (rs.map nc) (nc z) = V at *
  generalize slopePolyF (rs.map nc) = SP at *
  obtain ⟨v0, ok⟩ := V
  obtain ⟨S, ok2⟩ := SP
  dsimp only at *
  cases ok
  · rw [if_neg (by decide)]
    go_enter Try.func76, Try.ntmps76
    go_wp2_with fail
    (go_at_call 87; ((with_reducible refine (Pspec.out _ _ Hv.out).mono ?_); rintro e w3 ⟨a, b, rfl, ha, hb, hb3⟩))
    replace hp := (hb3.cell (p := ⟨p, 0, none⟩) lp).trans hp
    have V1 := Lib.hid (Hv.out.below hb3)
    have BB := Lib.hid hb3
    have Hab := Lib.hid (show nc (a, b) = v0 from Prod.ext ha hb)
    clear hb3 ha hb lp
    go_wp2_with fail
    (try simp only [Exit.inBlock, Exit.then]); refine bodyPost_ret (by simp [results, Try.results76, go_sem, *]; try rfl) rfl ?_
    exact ⟨_, _, _, _, rfl, n0, n0, BB.out⟩
  · rw [if_pos rfl]
    by_cases hz : zeroC v0 = true
    · rw [if_pos hz]
      go_enter Try.func76, Try.ntmps76
      go_wp2_with fail
      (go_at_call 87; ((with_reducible refine (Pspec.out _ _ Hv.out).mono ?_); rintro e w3 ⟨a, b, rfl, ha, hb, hb3⟩))
      replace hp := (hb3.cell (p := ⟨p, 0, none⟩) lp).trans hp
      have V1 := Lib.hid (Hv.out.below hb3)
      have BB := Lib.hid hb3
      have Hab := Lib.hid (show nc (a, b) = v0 from Prod.ext ha hb)
      clear hb3 ha hb lp
      have hz2 : zeroC (nc (a, b)) = true := by rw [Hab.out]; exact hz
      clear hz
      go_wp2_with fail
      (try simp only [Exit.inBlock, Exit.then]); refine bodyPost_ret (by simp [results, Try.results76, go_sem, *]; try rfl) rfl ?_
      exact ⟨_, _, _, _, rfl, n0, n0, BB.out⟩
    · rw [if_neg hz]
      have hz0 : zeroC v0 = false := by simpa using hz
      clear hz
      cases ok2
      · rw [if_neg (by decide)]
        go_enter Try.func76, Try.ntmps76
        go_wp2_with fail
        (go_at_call 87; ((with_reducible refine (Pspec.out _ _ Hv.out).mono ?_); rintro e w3 ⟨a, b, rfl, ha, hb, hb3⟩))
        replace hp := (hb3.cell (p := ⟨p, 0, none⟩) lp).trans hp
        have V1 := Lib.hid (Hv.out.below hb3)
        have BB := Lib.hid hb3
        have Hab := Lib.hid (show nc (a, b) = v0 from Prod.ext ha hb)
        clear hb3 ha hb lp
        have hz2 : zeroC (nc (a, b)) = false := by rw [Hab.out]; exact hz0
        go_wp2_with fail
        (go_at_call 88; ((with_reducible refine (Sspec.out _ _ V1.out).mono ?_); rintro e w4 ⟨v2, qs, rfl, hqs, ho2, hb4⟩))
        replace BB := Lib.hid (show Below w.heap.size w w4 from BB.out.trans (hb4.mono BB.out.size))
        have Hqs := Lib.hid hqs
        have V2 := Lib.hid ho2.rd
        clear hb4 hqs ho2 V1
        obtain ⟨ao2, cap2, rfl, _⟩ := V2.out.shape
        rw [cx_length] at V2 ⊢
        go_wp2_with fail
        (try simp only [Exit.inBlock, Exit.then]); refine bodyPost_ret (by simp [results, Try.results76, go_sem, *]; try rfl) rfl ?_
        exact ⟨_, _, _, _, rfl, n0, n0, BB.out.alloc BB.out.size _⟩
      · rw [if_pos rfl]
        have hS1 : 1 ≤ S.length := HR.out rfl
        have hS2 : S.length ≤ 17 := HR2.out
        generalize hT : polyAtF S (nc z) = T at *
        obtain ⟨t0, ok3⟩ := T
        have HT := Lib.hid hT
        clear hT HR HR2
        dsimp only at *
        cases ok3
        · rw [if_neg (by decide)]
          go_enter Try.func76, Try.ntmps76
          go_wp2_with fail
          (go_at_call 87; ((with_reducible refine (Pspec.out _ _ Hv.out).mono ?_); rintro e w3 ⟨a, b, rfl, ha, hb, hb3⟩))
          replace hp := (hb3.cell (p := ⟨p, 0, none⟩) lp).trans hp
          have V1 := Lib.hid (Hv.out.below hb3)
          have BB := Lib.hid hb3
          have Hab := Lib.hid (show nc (a, b) = v0 from Prod.ext ha hb)
          clear hb3 ha hb lp
          have hz2 : zeroC (nc (a, b)) = false := by rw [Hab.out]; exact hz0
          go_wp2_with fail
          (go_at_call 88; ((with_reducible refine (Sspec.out _ _ V1.out).mono ?_); rintro e w4 ⟨v2, qs, rfl, hqs, ho2, hb4⟩))
          replace BB := Lib.hid (show Below w.heap.size w w4 from BB.out.trans (hb4.mono BB.out.size))
          have Hqs := Lib.hid hqs
          have V2 := Lib.hid ho2.rd
          clear hb4 hqs ho2 V1
          obtain ⟨ao2, cap2, rfl, _⟩ := V2.out.shape
          rw [cx_length] at V2 ⊢
          go_wp2_with fail
          have hq1 : 1 ≤ qs.length := by have := congrArg List.length Hqs.out; simp only [List.length_map] at this; omega
          have hq2 : qs.length ≤ 17 := by have := congrArg List.length Hqs.out; simp only [List.length_map] at this; omega
          (go_at_call 87; ((with_reducible refine (polyAt_spec _ qs z _ (V2.out.alloc _) hq1 hq2 (Lib.hid fun _ _ => by rw [Hqs.out]; exact Hs2.out)).mono ?_); rw [Hqs.out, HT.out]; rintro e w5 ⟨c, d, rfl, hc, hd, hb5⟩))
          replace BB := Lib.hid (show Below w.heap.size w w5 from (BB.out.alloc BB.out.size _).trans (hb5.mono (by have := BB.out.size; simp; omega)))
          have Hcd := Lib.hid (show nc (c, d) = t0 from Prod.ext hc hd)
          clear hb5 hc hd
          go_wp2_with fail
          (try simp only [Exit.inBlock, Exit.then]); refine bodyPost_ret (by simp [results, Try.results76, go_sem, *]; try rfl) rfl ?_
          exact ⟨_, _, _, _, rfl, n0, n0, BB.out⟩
        · rw [if_pos rfl]
          go_enter Try.func76, Try.ntmps76
          go_wp2_with fail
          (go_at_call 87; ((with_reducible refine (Pspec.out _ _ Hv.out).mono ?_); rintro e w3 ⟨a, b, rfl, ha, hb, hb3⟩))
          replace hp := (hb3.cell (p := ⟨p, 0, none⟩) lp).trans hp
          have V1 := Lib.hid (Hv.out.below hb3)
          have BB := Lib.hid hb3
          have Hab := Lib.hid (show nc (a, b) = v0 from Prod.ext ha hb)
          clear hb3 ha hb lp
          have hz2 : zeroC (nc (a, b)) = false := by rw [Hab.out]; exact hz0
          go_wp2_with fail
          (go_at_call 88; ((with_reducible refine (Sspec.out _ _ V1.out).mono ?_); rintro e w4 ⟨v2, qs, rfl, hqs, ho2, hb4⟩))
          replace BB := Lib.hid (show Below w.heap.size w w4 from BB.out.trans (hb4.mono BB.out.size))
          have Hqs := Lib.hid hqs
          have V2 := Lib.hid ho2.rd
          clear hb4 hqs ho2 V1
          obtain ⟨ao2, cap2, rfl, _⟩ := V2.out.shape
          rw [cx_length] at V2 ⊢
          go_wp2_with fail
          have hq1 : 1 ≤ qs.length := by have := congrArg List.length Hqs.out; simp only [List.length_map] at this; omega
          have hq2 : qs.length ≤ 17 := by have := congrArg List.length Hqs.out; simp only [List.length_map] at this; omega
          (go_at_call 87; ((with_reducible refine (polyAt_spec _ qs z _ (V2.out.alloc _) hq1 hq2 (Lib.hid fun _ _ => by rw [Hqs.out]; exact Hs2.out)).mono ?_); rw [Hqs.out, HT.out]; rintro e w5 ⟨c, d, rfl, hc, hd, hb5⟩))
          replace BB := Lib.hid (show Below w.heap.size w w5 from (BB.out.alloc BB.out.size _).trans (hb5.mono (by have := BB.out.size; simp; omega)))
          have Hcd := Lib.hid (show nc (c, d) = t0 from Prod.ext hc hd)
          clear hb5 hc hd
          go_wp2_with fail
          (try simp only [Exit.inBlock, Exit.then]); refine bodyPost_ret (by simp [results, Try.results76, go_sem, *]; try rfl) rfl ?_
          exact ⟨_, _, _, _, rfl, Hab.out, Hcd.out, BB.out⟩

end Go.Proofs.Ytalfkkagbajjcaa

/- One Newton step, of the reference. Conditions: a polynomial with roots, a finite number; what is narrowed fits float32. -/
namespace Go.Proofs.Ytalfkkagbajjcaa
set_option linter.unusedSimpArgs false
set_option linter.unusedVariables false
open Go Go.RowKit

set_option maxRecDepth 100000 in
set_option maxHeartbeats 4000000 in
theorem step_spec (p : Nat) (v : Value) (rs : List C2) (z : C2) (w : World) (hp : w.cell? ⟨p, 0, none⟩ = some v) (hv : RdV w v (cx rs)) (h1 : 1 ≤ rs.length) (h2 : rs.length ≤ 17)
    (hroot : rootedF (rs.map nc) = true) (hfin : finC (nc z) = true) (Hs : RowKit.Hid (safeStep (rs.map nc) (nc z))) :
    Calls Try.prog 68 #[.pointer (some ⟨p, 0, none⟩), .complex .f32 z.1 z.2] w (RetXB (stepF (rs.map nc) (nc z)) w) := by
  have n0 := nrm0
  obtain ⟨hs1, hs2, hs3⟩ : safeN (rs.map nc) (nc z) ∧ safeN (slopePolyF (rs.map nc)).1 (nc z) ∧ quoFit (polyAtF (rs.map nc) (nc z)).1 (polyAtF (slopePolyF (rs.map nc)).1 (nc z)).1 := Hs.out
  have Hs3 := Lib.hid hs3
  have Vspec := Lib.hid (values_spec p v rs z w hp hv h1 h2 hs1 hs2)
  have HF := Lib.hid (show stepF (rs.map nc) (nc z) = _ by unfold stepF; rw [if_pos (by rw [hroot, hfin]; rfl)])
  rw [HF.out]
  have HV := Lib.hid (show valuesF (rs.map nc) (nc z) = _ by unfold valuesF; rfl)
  rw [HV.out] at Vspec
  clear HF HV hp hv hs1 hs2 hs3 Hs hroot hfin
  generalize polyAtF (rs.map nc) (nc z) = V at *
  generalize slopePolyF (rs.map nc) = SP at *
  obtain ⟨v0, ok⟩ := V
  obtain ⟨S, ok2⟩ := SP
  dsimp only at *
  generalize polyAtF S (nc z) = T at *
  obtain ⟨t0, ok3⟩ := T
  dsimp only at *
  cases ok
  · rw [if_neg (by decide)] at Vspec ⊢
    go_enter Try.func68, Try.ntmps68
    go_wp2_with fail
    (go_at_call 76; ((with_reducible refine Vspec.out.mono ?_); rintro e w1 ⟨a, b, c, d, rfl, hab, hcd, hb1⟩))
    have Hab := Lib.hid hab
    have Hcd := Lib.hid hcd
    have BB := Lib.hid hb1
    clear hab hcd hb1
    dsimp only at Hab Hcd ⊢
    go_wp2_with fail
    go_ret2
    exact ⟨_, _, rfl, n0, n0, BB.out⟩
  · rw [if_pos rfl] at Vspec ⊢
    by_cases hz : zeroC v0 = true
    · rw [if_pos hz] at Vspec ⊢
      clear hz
      go_enter Try.func68, Try.ntmps68
      go_wp2_with fail
      (go_at_call 76; ((with_reducible refine Vspec.out.mono ?_); rintro e w1 ⟨a, b, c, d, rfl, hab, hcd, hb1⟩))
      have Hab := Lib.hid hab
      have Hcd := Lib.hid hcd
      have BB := Lib.hid hb1
      clear hab hcd hb1
      dsimp only at Hab Hcd ⊢
      have hz2 : zeroC (nc (a, b)) = true := by rw [Hab.out]; decide +kernel
      go_wp2_with fail
      go_ret2
      exact ⟨_, _, rfl, rfl, rfl, BB.out⟩
    · rw [if_neg hz] at Vspec ⊢
      have hz0 : zeroC v0 = false := by simpa using hz
      clear hz
      cases ok2
      · rw [if_neg (by decide)] at Vspec ⊢
        go_enter Try.func68, Try.ntmps68
        go_wp2_with fail
        (go_at_call 76; ((with_reducible refine Vspec.out.mono ?_); rintro e w1 ⟨a, b, c, d, rfl, hab, hcd, hb1⟩))
        have Hab := Lib.hid hab
        have Hcd := Lib.hid hcd
        have BB := Lib.hid hb1
        clear hab hcd hb1
        dsimp only at Hab Hcd ⊢
        go_wp2_with fail
        go_ret2
        exact ⟨_, _, rfl, n0, n0, BB.out⟩
      · rw [if_pos rfl] at Vspec ⊢
        cases ok3
        · rw [if_neg (by decide)] at Vspec
          rw [Bool.false_and, if_neg (by decide)]
          go_enter Try.func68, Try.ntmps68
          go_wp2_with fail
          (go_at_call 76; ((with_reducible refine Vspec.out.mono ?_); rintro e w1 ⟨a, b, c, d, rfl, hab, hcd, hb1⟩))
          have Hab := Lib.hid hab
          have Hcd := Lib.hid hcd
          have BB := Lib.hid hb1
          clear hab hcd hb1
          dsimp only at Hab Hcd ⊢
          go_wp2_with fail
          go_ret2
          exact ⟨_, _, rfl, n0, n0, BB.out⟩
        · rw [if_pos rfl] at Vspec
          rw [Bool.true_and]
          cases hq : finC (quoC v0 t0)
          · rw [if_neg (by decide)]
            go_enter Try.func68, Try.ntmps68
            go_wp2_with fail
            (go_at_call 76; ((with_reducible refine Vspec.out.mono ?_); rintro e w1 ⟨a, b, c, d, rfl, hab, hcd, hb1⟩))
            have Hab := Lib.hid hab
            have Hcd := Lib.hid hcd
            have BB := Lib.hid hb1
            clear hab hcd hb1
            dsimp only at Hab Hcd ⊢
            have hz2 : zeroC (nc (a, b)) = false := by rw [Hab.out]; exact hz0
            go_wp2_with fail
            (go_at_call 77; ((with_reducible refine (quo_spec (a, b) (c, d) (Lib.hid (by rw [Hab.out, Hcd.out]; exact Hs3.out)) _).mono ?_); rw [Hab.out, Hcd.out]; rintro e w' ⟨x, y, m, rfl, hx, hy, rfl⟩))
            have Hxy := Lib.hid (show nc (x, y) = quoC v0 t0 from Prod.ext hx hy)
            clear hx hy
            go_wp2_with fail
            (go_at_call 50; ((with_reducible refine (cfin1_spec (x, y) _).mono ?_); rw [Hxy.out, hq]; rintro e w' ⟨m2, rfl, rfl⟩))
            go_wp2_with fail
            go_ret2
            exact ⟨_, _, rfl, n0, n0, below_drewN BB.out _⟩
          · rw [if_pos rfl]
            go_enter Try.func68, Try.ntmps68
            go_wp2_with fail
            (go_at_call 76; ((with_reducible refine Vspec.out.mono ?_); rintro e w1 ⟨a, b, c, d, rfl, hab, hcd, hb1⟩))
            have Hab := Lib.hid hab
            have Hcd := Lib.hid hcd
            have BB := Lib.hid hb1
            clear hab hcd hb1
            dsimp only at Hab Hcd ⊢
            have hz2 : zeroC (nc (a, b)) = false := by rw [Hab.out]; exact hz0
            go_wp2_with fail
            (go_at_call 77; ((with_reducible refine (quo_spec (a, b) (c, d) (Lib.hid (by rw [Hab.out, Hcd.out]; exact Hs3.out)) _).mono ?_); rw [Hab.out, Hcd.out]; rintro e w' ⟨x, y, m, rfl, hx, hy, rfl⟩))
            have Hxy := Lib.hid (show nc (x, y) = quoC v0 t0 from Prod.ext hx hy)
            clear hx hy
            go_wp2_with fail
            (go_at_call 50; ((with_reducible refine (cfin1_spec (x, y) _).mono ?_); rw [Hxy.out, hq]; rintro e w' ⟨m2, rfl, rfl⟩))
            go_wp2_with (with_reducible refine wpList_cadd rfl .sub (.inr rfl) _ _ _ _ rfl _ _ _ _ rfl rfl ?_; intro g1 g2 m3 hg1 hg2)
            have Hg := Lib.hid (show nc (g1, g2) = subC (nc z) (quoC v0 t0) by
              have e1 : nrm .f32 x = (quoC v0 t0).1 := congrArg Prod.fst Hxy.out
              have e2 : nrm .f32 y = (quoC v0 t0).2 := congrArg Prod.snd Hxy.out
              unfold subC
              rw [← e1, ← e2]
              exact Prod.ext hg1 hg2)
            clear hg1 hg2
            refine (number_spec (g1, g2) _).mono ?_
            rw [Hg.out]
            generalize finiteX (subC (nc z) (quoC v0 t0)) = G at *
            rintro e w7 ⟨r1, r2, rfl, hr1, hr2, hb7⟩
            have Hr1 := Lib.hid hr1
            have Hr2 := Lib.hid hr2
            clear hr1 hr2
            go_wp2_with fail
            go_ret2
            exact ⟨_, _, rfl, Hr1.out, Hr2.out, (below_drewN BB.out _).trans (hb7.mono (show w.heap.size ≤ w1.heap.size from BB.out.size))⟩

end Go.Proofs.Ytalfkkagbajjcaa

/- Newton steps one behind the other, of the reference. Conditions: a polynomial with roots, a finite number; what is narrowed fits float32. -/
namespace Go.Proofs.Ytalfkkagbajjcaa
set_option linter.unusedSimpArgs false
set_option linter.unusedVariables false
open Go Go.RowKit

def polishF (F : List C2) : Nat → C2 → C2 × Bool
  | 0, z => (z, true)
  | n + 1, z => if (stepF F z).2 = true then polishF F n (stepF F z).1 else ((0, 0), false)
def safePolish (F : List C2) : Nat → C2 → Prop
  | 0, _ => True
  | n + 1, z => safeStep F z ∧ ((stepF F z).2 = true → safePolish F n (stepF F z).1)
theorem finiteX_fin {z : C2} (h : (finiteX z).2 = true) : finC (finiteX z).1 = true := by
  unfold finiteX at h ⊢
  split
  · assumption
  · rename_i hh; rw [if_neg hh] at h; cases h
theorem stepF_fin {F : List C2} {z : C2} (h : (stepF F z).2 = true) : finC (stepF F z).1 = true := by
  unfold stepF at h ⊢
  split
  · rename_i h1
    rw [if_pos h1] at h
    split
    · rename_i h2
      rw [if_pos h2] at h
      split
      · simp only [Bool.and_eq_true] at h1; exact h1.2
      · rename_i h3
        rw [if_neg h3] at h
        split
        · rename_i h4
          rw [if_pos h4] at h
          split
          · rename_i h5; rw [if_pos h5] at h; exact finiteX_fin h
          · rename_i h5; rw [if_neg h5] at h; cases h
        · rename_i h4; rw [if_neg h4] at h; cases h
    · rename_i h2; rw [if_neg h2] at h; cases h
  · rename_i h1; rw [if_neg h1] at h; cases h

set_option maxRecDepth 100000 in
set_option maxHeartbeats 1000000 in
theorem polish_spec (p : Nat) (v : Value) (rs : List C2) (z : C2) (n : Nat) (w : World) (hp : w.cell? ⟨p, 0, none⟩ = some v) (hv : RdV w v (cx rs)) (h1 : 1 ≤ rs.length) (h2 : rs.length ≤ 17)
    (hroot : rootedF (rs.map nc) = true) (hfin : finC (nc z) = true) (hn : n ≤ 64) (Hs : RowKit.Hid (safePolish (rs.map nc) n (nc z))) :
    Calls Try.prog 55 #[.pointer (some ⟨p, 0, none⟩), .complex .f32 z.1 z.2, .int .i64 n] w (RetXB (polishF (rs.map nc) n (nc z)) w) := by
  have n0 := nrm0
  have lp : p < w.heap.size := World.block_lt_of_cell? _ _ hp
  have ST := Lib.hid (fun w1 z1 (hb : Below w.heap.size w w1) hf Hs => step_spec p v rs z1 w1 ((hb.cell (p := ⟨p, 0, none⟩) lp).trans hp) (hv.below hb) h1 h2 hroot hf Hs)
  clear hp hv h1 h2 hroot lp
  generalize rs.map nc = F at *
  go_enter Try.func55, Try.ntmps55
  go_wp2
  go_loopw [1, 2] (fun zv i wr => ∃ (k : Nat) (x y : Nat), k ≤ n ∧ i = .int .i64 k ∧ zv = .complex .f32 x y ∧ Below w.heap.size w wr ∧ polishF F k (nc (x, y)) = polishF F n (nc z) ∧ safePolish F k (nc (x, y)) ∧ finC (nc (x, y)) = true) (fun _ i _ => (intOf i).toNat)
  case atStart => exact ⟨n, z.1, z.2, Nat.le_refl _, rfl, rfl, Below.refl _ _, rfl, Hs.out, hfin⟩
  case round =>
    obtain ⟨k, x, y, hk, rfl, rfl, hbel, hpol, hsafe, hf⟩ := hrel
    by_cases h0 : k = 0
    · subst h0
      have Hpol := Lib.hid (show polishF F n (nc z) = (nc (x, y), true) from hpol.symm)
      clear hpol hsafe
      go_wp2
      go_ret2
      rw [Hpol.out]
      exact ⟨_, _, rfl, rfl, rfl, hbel⟩
    · obtain ⟨j, rfl⟩ : ∃ j, k = j + 1 := ⟨k - 1, by omega⟩
      have C := Lib.hid (ST.out wr (x, y) hbel hf (Lib.hid hsafe.1))
      have Hpol := Lib.hid (show polishF F n (nc z) = if (stepF F (nc (x, y))).2 = true then polishF F j (stepF F (nc (x, y))).1 else ((0, 0), false) from hpol.symm)
      have Hsafe := Lib.hid hsafe.2
      have Hfin := Lib.hid (stepF_fin (F := F) (z := nc (x, y)))
      have Hb := Lib.hid hbel
      have j0 : (0 : Int) < (j : Int) + 1 := by omega
      have j1 : (0 : Int) ≤ (j : Int) := by omega
      clear hpol hsafe hbel hf
      generalize stepF F (nc (x, y)) = T at *
      obtain ⟨t0, ok⟩ := T
      dsimp only at *
      go_wp2_with fail
      refine C.out.mono ?_
      rintro e w1 ⟨a, b, rfl, ha, hb, hb1⟩
      have Hab := Lib.hid (show nc (a, b) = t0 from Prod.ext ha hb)
      replace Hb := Lib.hid (Hb.out.trans (hb1.mono Hb.out.size))
      clear ha hb hb1 C
      cases ok
      · go_wp2_with fail
        go_ret2
        rw [Hpol.out, if_neg (by decide)]
        exact ⟨_, _, rfl, n0, n0, Hb.out⟩
      · go_wp2_with fail
        go_roundw
        case rel => exact ⟨j, a, b, by omega, by go_num, rfl, Hb.out, by rw [Hab.out, Hpol.out]; simp, by rw [Hab.out]; first | exact Hsafe.out rfl | exact Hsafe.out trivial, by rw [Hab.out]; first | exact Hfin.out rfl | exact Hfin.out trivial⟩
        case measure => first | (simp [intOf]; done) | (simp [intOf]; omega)

end Go.Proofs.Ytalfkkagbajjcaa

/- Ranges, lists of roots, and Newton steps one behind the other, of the program. Conditions: those of the statements. -/
namespace Go.Proofs.Ytalfkkagbajjcaa
set_option linter.unusedSimpArgs false
set_option linter.unusedVariables false
open Go Go.RowKit

def inB (lo n hi : Int) : Bool := decide (lo ≤ n ∧ n ≤ hi)
theorem in_spec (n lo hi : Int) (w : World) : Calls Try.prog 34 #[.int .i64 n, .int .i64 lo, .int .i64 hi] w fun e w' => e = .returned (.bool (inB lo n hi)) ∧ w = w' := by
  by_cases h1 : lo ≤ n
  · by_cases h2 : n ≤ hi
    · have hd : inB lo n hi = true := by simp [inB, h1, h2]
      rw [hd]; clear hd
      go_enter Try.func34, Try.ntmps34
      go_wp2
      go_ret
      exact ⟨rfl, rfl⟩
    · have hd : inB lo n hi = false := by simp [inB, h2]
      rw [hd]; clear hd
      go_enter Try.func34, Try.ntmps34
      go_wp2
      go_ret
      exact ⟨rfl, rfl⟩
  · have hd : inB lo n hi = false := by simp [inB, h1]
    rw [hd]; clear hd
    go_enter Try.func34, Try.ntmps34
    go_wp2
    go_ret
    exact ⟨rfl, rfl⟩

theorem within_impl (n lo hi : Int) (w : World) : Calls Try.prog 39 #[.int .i64 n, .int .i64 lo, .int .i64 hi] w fun e w' => e = .returned (.bool (inB lo n hi)) ∧ w = w' := by
  by_cases h1 : lo ≤ n
  · by_cases h2 : n ≤ hi
    · have hd : inB lo n hi = true := by simp [inB, h1, h2]
      rw [hd]; clear hd
      go_enter Try.func39, Try.ntmps39
      go_wp2
      go_ret
      exact ⟨rfl, rfl⟩
    · have hd : inB lo n hi = false := by simp [inB, h2]
      rw [hd]; clear hd
      go_enter Try.func39, Try.ntmps39
      go_wp2
      go_ret
      exact ⟨rfl, rfl⟩
  · have hd : inB lo n hi = false := by simp [inB, h1]
    rw [hd]; clear hd
    go_enter Try.func39, Try.ntmps39
    go_wp2
    go_ret
    exact ⟨rfl, rfl⟩



set_option maxRecDepth 100000 in
theorem areRoots_impl (v : Value) (rs : List C2) (w : World) (hv : RdV w v (cx rs)) (h1 : 1 ≤ rs.length) (h2 : rs.length ≤ 16) :
    Calls Try.prog 19 #[v] w (RB (allFinC rs) w) := by
  obtain ⟨ao, cap, rfl, _⟩ := hv.shape
  rw [cx_length] at hv ⊢
  have Hv := Lib.hid hv
  clear hv
  have j1 : (1 : Int) ≤ (rs.length : Int) := by omega
  have j2 : (rs.length : Int) ≤ 16 := by omega
  go_enter Try.func19, Try.ntmps19
  go_wp2_with fail
  (go_at_call 44; ((with_reducible refine (allFinite_impl _ rs _ Hv.out (by omega)).mono ?_); rintro e w1 ⟨rfl, hb1⟩))
  go_wp2_with fail
  go_ret
  exact ⟨by simp, hb1⟩
set_option maxRecDepth 100000 in
theorem list_spec (v : Value) (rs : List C2) (w : World) (hv : RdV w v (cx rs)) (h1 : 1 ≤ rs.length) (h2 : rs.length ≤ 16) :
    Calls Try.prog 32 #[v] w (RetB (allFinC rs) w) := by
  obtain ⟨ao, cap, rfl, _⟩ := hv.shape
  rw [cx_length] at hv ⊢
  have Hv := Lib.hid hv
  clear hv
  have j1 : (1 : Int) ≤ (rs.length : Int) := by omega
  have j2 : (rs.length : Int) ≤ 16 := by omega
  go_enter Try.func32, Try.ntmps32
  go_wp2_with fail
  (go_at_call 28; ((with_reducible refine (cfinite_spec _ rs _ Hv.out (by omega)).mono ?_); rintro e w1 ⟨m, rfl, rfl⟩))
  go_wp2_with fail
  go_ret
  exact ⟨_, by simp, rfl⟩

set_option maxRecDepth 100000 in
set_option maxHeartbeats 1000000 in
theorem polish_impl (v : Value) (rs : List C2) (z : C2) (n : Nat) (w : World) (hv : RdV w v (cx rs)) (h1 : 1 ≤ rs.length) (h2 : rs.length ≤ 17)
    (hroot : rootedF (rs.map nc) = true) (hfin : finC (nc z) = true) (hn : n ≤ 64) (Hs : RowKit.Hid (safePolish (rs.map nc) n (nc z))) :
    Calls Try.prog 41 #[.agg #[v], .complex .f32 z.1 z.2, .int .i64 n] w (RetXB (polishF (rs.map nc) n (nc z)) w) := by
  have n0 := nrm0
  obtain ⟨ao, cap, rfl, _⟩ := hv.shape
  rw [cx_length] at hv ⊢
  have Hv := Lib.hid hv
  clear hv
  have Ha := Lib.hid (show allFinC [z] = true by simp [allFinC, hfin])
  have X0 := Lib.hid (World.cell?_alloc_new w #[.slice ao rs.length cap] 38 0 : (w.alloc (.cells #[.slice ao rs.length cap] 38)).cell? ⟨w.heap.size, 0, none⟩ = some (.slice ao rs.length cap))
  have Rimpl := Lib.hid (fun v w hv => rooted_impl v rs w hv h1 h2)
  have hin : inB 0 n 64 = true := by simp [inB]; omega
  have Hin := Lib.hid hin
  rw [hroot] at Rimpl
  clear hin
  go_enter Try.func41, Try.ntmps41
  go_wp2_with fail
  (go_at_call 37; ((with_reducible refine (Rimpl.out _ _ (Hv.out.alloc _)).mono ?_); rintro e w1 ⟨rfl, hb1⟩))
  have xp : w1.cell? ⟨w.heap.size, 0, none⟩ = some (.slice ao rs.length cap) := (hb1.cell (p := ⟨w.heap.size, 0, none⟩) (by simp)).trans X0.out
  have lp : w.heap.size < w1.heap.size := by have := hb1.size; simp only [World.size_alloc] at this; omega
  have BB := Lib.hid (show Below w.heap.size w w1 from ((Below.refl _ _).alloc (Nat.le_refl _) _).trans (hb1.mono (by simp)))
  have V1 := Lib.hid ((Hv.out.alloc _).below hb1)
  clear hb1
  go_wp2_with fail
  (go_at_call 44; ((with_reducible refine (allFinite_impl _ [z] _ (rd_c1 rfl z) (by simp)).mono ?_); rintro e w2 ⟨rfl, hb2⟩))
  rw [Ha.out]
  have lp2 : w.heap.size ≤ w1.heap.size := by omega
  replace BB := Lib.hid (show Below w.heap.size w w2 from (BB.out.alloc BB.out.size _).trans (hb2.mono (by simp; omega)))
  replace xp := ((hb2.cell (p := ⟨w.heap.size, 0, none⟩) (by simp; omega)).trans (((Below.refl _ _).alloc (Nat.le_refl _) _).cell (p := ⟨w.heap.size, 0, none⟩) lp)).trans xp
  replace V1 := Lib.hid ((V1.out.alloc _).below hb2)
  replace lp : w.heap.size < w2.heap.size := World.block_lt_of_cell? _ _ xp
  clear hb2 lp2
  have ST := Lib.hid (fun w3 z1 (hb : Below w2.heap.size w2 w3) Hs => step_impl (.slice ao rs.length cap) rs z1 w3 (V1.out.below hb) h1 h2 Hs)
  clear h1 h2 hroot
  generalize rs.map nc = F at *
  go_wp2_with (go_at_call 39; go_must (refine (within_impl _ _ _ _).mono ?_); rw [Hin.out]; rintro e w' ⟨rfl, rfl⟩)
  have B2 := Below.refl w2.heap.size w2
  go_loopw [1, 24] (fun zv i wr => ∃ (k : Nat) (x y : Nat), k ≤ n ∧ i = .int .i64 k ∧ zv = .complex .f32 x y ∧ Below w2.heap.size w2 wr ∧ polishF F (n - k) (nc (x, y)) = polishF F n (nc z) ∧ safePolish F (n - k) (nc (x, y))) (fun _ i _ => n - (intOf i).toNat)
  case atStart => exact ⟨0, z.1, z.2, Nat.zero_le _, rfl, rfl, Below.refl _ _, rfl, Hs.out⟩
  case round =>
    obtain ⟨k, x, y, hk, rfl, rfl, hbel, hpol, hsafe⟩ := hrel
    have xq := (hbel.cell (p := ⟨w.heap.size, 0, none⟩) lp).trans xp
    by_cases h0 : k < n
    · obtain ⟨j, hj⟩ : ∃ j, n - k = j + 1 := ⟨n - k - 1, by omega⟩
      rw [hj] at hpol hsafe
      have Hj := Lib.hid hj
      have C := Lib.hid (ST.out wr (x, y) hbel (Lib.hid hsafe.1))
      have Hpol := Lib.hid (show polishF F n (nc z) = if (stepF F (nc (x, y))).2 = true then polishF F j (stepF F (nc (x, y))).1 else ((0, 0), false) from hpol.symm)
      have Hsafe := Lib.hid hsafe.2
      have Hb := Lib.hid hbel
      have j1 : (k : Int) < (n : Int) := by omega
      clear hpol hsafe hbel hj
      generalize stepF F (nc (x, y)) = T at *
      obtain ⟨t0, ok⟩ := T
      dsimp only at *
      go_wp2_with fail
      refine C.out.mono ?_
      rintro e w3 ⟨a, b, rfl, ha, hb, hb1⟩
      have Hab := Lib.hid (show nc (a, b) = t0 from Prod.ext ha hb)
      replace Hb := Lib.hid (Hb.out.trans (hb1.mono Hb.out.size))
      clear ha hb hb1 C
      cases ok
      · go_wp2_with fail
        go_ret2
        rw [Hpol.out, if_neg (by decide)]
        exact ⟨_, _, rfl, n0, n0, BB.out.trans (Hb.out.mono BB.out.size)⟩
      · go_wp2_with fail
        go_roundw
        case rel => exact ⟨k + 1, a, b, by omega, by go_num, rfl, Hb.out, by rw [Hab.out, Hpol.out, show n - (k + 1) = j by have := Hj.out; omega]; simp, by rw [Hab.out, show n - (k + 1) = j by have := Hj.out; omega]; first | exact Hsafe.out rfl | exact Hsafe.out trivial⟩
        case measure => first | (simp [intOf]; done) | (simp [intOf]; omega)
    · obtain rfl : k = n := by omega
      rw [Nat.sub_self] at hpol
      have Hpol := Lib.hid (show polishF F k (nc z) = (nc (x, y), true) from hpol.symm)
      clear hpol hsafe
      go_wp2
      go_ret2
      rw [Hpol.out]
      exact ⟨_, _, rfl, rfl, rfl, BB.out.trans (hbel.mono BB.out.size)⟩

end Go.Proofs.Ytalfkkagbajjcaa

/- The number that a start comes to, of the reference. Conditions: a polynomial with roots, a finite number, 1 to 16 roots; what is narrowed fits float32. -/
namespace Go.Proofs.Ytalfkkagbajjcaa
set_option linter.unusedSimpArgs false
set_option linter.unusedVariables false
open Go Go.RowKit

/-- The first of the least. -/
def bestD (D : Nat → Nat) : Nat → Nat
  | 0 => 0
  | k + 1 => if fcmp .lss .f32 (D k) (D (bestD D k)) = true then k else bestD D k
theorem bestD_lt (D : Nat → Nat) {n : Nat} (h : 0 < n) : bestD D n < n := by
  induction n with
  | zero => omega
  | succ n ih =>
    unfold bestD
    split
    · omega
    · by_cases h0 : n = 0
      · subst h0; exact Nat.one_pos
      · have := ih (by omega); omega
theorem bestD_le (D : Nat → Nat) (n m : Nat) (h : n ≤ m) (h0 : 0 < m) : bestD D n < m := by
  by_cases hn : n = 0
  · subst hn; exact h0
  · have := bestD_lt D (n := n) (by omega); omega
def distF (L : List C2) (x : C2) (k : Nat) : Nat := longF (subC (L.getD k (0, 0)) x)
def basinF (F L : List C2) (z : C2) (n : Nat) : Nat × Bool := if (polishF F n z).2 = true then (bestD (distF L (polishF F n z).1) L.length, true) else (0, false)
def RetIB (F : Nat × Bool) (w : World) (e : Ending) (w' : World) : Prop := e = .returned (.tuple #[.int .i64 F.1, .bool F.2]) ∧ Below w.heap.size w w'
def GL (_ : FuncId) (args : Array Value) (u : Value) : Prop := ∃ x y a, args = #[.complex .f32 x y] ∧ u = .float .f32 a ∧ nrm .f32 a = longF (nc (x, y))

set_option maxRecDepth 100000 in
set_option maxHeartbeats 2000000 in
theorem basin_spec (p : Nat) (v lv : Value) (rs ls : List C2) (z : C2) (n : Nat) (w : World) (hp : w.cell? ⟨p, 0, none⟩ = some v) (hv : RdV w v (cx rs)) (h1 : 1 ≤ rs.length) (h2 : rs.length ≤ 17)
    (hl : RdV w lv (cx ls)) (hl1 : 1 ≤ ls.length) (hl2 : ls.length ≤ 16) (hroot : rootedF (rs.map nc) = true) (hfin : finC (nc z) = true) (hn : n ≤ 64) (Hs : RowKit.Hid (safePolish (rs.map nc) n (nc z)))
    (Hd : RowKit.Hid (∀ k, k < ls.length → fit1 (sqF (powerF (subC ((ls.map nc).getD k (0, 0)) (polishF (rs.map nc) n (nc z)).1))))) :
    Calls Try.prog 36 #[.pointer (some ⟨p, 0, none⟩), lv, .complex .f32 z.1 z.2, .int .i64 n] w (RetIB (basinF (rs.map nc) (ls.map nc) (nc z) n) w) := by
  have C := Lib.hid (polish_spec p v rs z n w hp hv h1 h2 hroot hfin hn Hs)
  have HB := Lib.hid (show basinF (rs.map nc) (ls.map nc) (nc z) n = _ by unfold basinF; rfl)
  rw [HB.out]
  clear HB hp hv h1 h2 hroot hfin hn Hs
  generalize polishF (rs.map nc) n (nc z) = T at *
  obtain ⟨t0, ok⟩ := T
  dsimp only at *
  rcases hl.openC with ⟨rfl, _⟩ | ⟨b, off, cap, rfl, hb, hcp, hc⟩
  · simp at hl1
  have Hc := Lib.hid (show ∀ i, i < ls.length → w.cell? ⟨b, off + i, none⟩ = some (.complex .f32 (ls.getD i (0, 0)).1 (ls.getD i (0, 0)).2) from fun i hi => by
    rw [hc i hi]; simp [List.getD, hi])
  have Hg := Lib.hid (fun i => getD_nc ls i)
  rw [List.length_map]
  clear hl hc hcp
  generalize ls.map nc = L at *
  generalize hN : ls.length = N at *
  clear hN
  cases ok
  · rw [if_neg (by decide)]
    go_enter Try.func36, Try.ntmps36
    go_wp2_with fail
    refine C.out.mono ?_
    rintro e w1 ⟨a0, b0, rfl, _, _, hb1⟩
    go_wp2_with fail
    go_ret2
    exact ⟨rfl, hb1⟩
  · rw [if_pos rfl]
    go_enter Try.func36, Try.ntmps36
    go_wp2_with fail
    refine C.out.mono ?_
    rintro e w1 ⟨a0, b0, rfl, ha0, hb0, hb1⟩
    have Hab := Lib.hid (show nc (a0, b0) = t0 from Prod.ext ha0 hb0)
    have B1 := Lib.hid hb1
    clear ha0 hb0 C hb1
    go_wp2_with fail
    go_loopw [12, 25] (fun bv i wr => ∃ (k m : Nat), k ≤ N ∧ i = .int .i64 k ∧ bv = .int .i64 (bestD (distF L t0) k) ∧ wr = w1.drewN m) (fun _ i _ => N - (intOf i).toNat)
    case atStart => exact ⟨0, 0, Nat.zero_le _, rfl, rfl, rfl⟩
    case round =>
      obtain ⟨k, m, hk, rfl, rfl, rfl⟩ := hrel
      by_cases hlt : k < N
      · have hbl := bestD_le (distF L t0) k N hk (by omega)
        have hB := Lib.hid (show bestD (distF L t0) (k + 1) = if fcmp .lss .f32 (distF L t0 k) (distF L t0 (bestD (distF L t0) k)) = true then k else bestD (distF L t0) k from rfl)
        generalize bestD (distF L t0) k = q at *
        have c1 := (B1.out.cell (p := ⟨b, off + k, none⟩) hb).trans (Hc.out k hlt)
        have c2 := (B1.out.cell (p := ⟨b, off + q, none⟩) hb).trans (Hc.out q hbl)
        have F1 := Hd.out k hlt
        have F2 := Hd.out q hbl
        have E1 := Lib.hid (show L.getD k (0, 0) = nc (ls.getD k (0, 0)) from Hg.out k)
        have E2 := Lib.hid (show L.getD q (0, 0) = nc (ls.getD q (0, 0)) from Hg.out q)
        have D1 := Lib.hid (show distF L t0 k = longF (subC (nc (ls.getD k (0, 0))) t0) by rw [← E1.out]; rfl)
        have D2 := Lib.hid (show distF L t0 q = longF (subC (nc (ls.getD q (0, 0))) t0) by rw [← E2.out]; rfl)
        rw [E1.out] at F1
        rw [E2.out] at F2
        have F1' := Lib.hid F1
        have F2' := Lib.hid F2
        clear F1 F2
        generalize ls.getD k (0, 0) = lk at *
        generalize ls.getD q (0, 0) = lq at *
        obtain ⟨k1, k2⟩ := lk
        obtain ⟨q1, q2⟩ := lq
        have j1 : (0 : Int) ≤ (k : Int) := by omega
        have j2 : (k : Int) < (N : Int) := by omega
        have j3 : (0 : Int) ≤ (q : Int) := by omega
        have j4 : (q : Int) < (N : Int) := by omega
        go_wp2
        refine wp_region_v 15 GL (by kernel_rfl) (by kernel_rfl) ?_
        simp only [List.take_succ_cons, List.take_zero, List.drop_succ_cons, List.drop_zero]
        repeat (apply wpV_det; (exact rfl); (intro nq; go_simp; rfl); (intro K hK; go_simp; refine hK.use ?_; clear hK K))
        (refine wpV_cadd .sub (.inr rfl) _ _ _ _ rfl _ _ _ _ rfl rfl rfl ?_; intro g1 g2 hg1 hg2; (intro K hK; go_simp; refine hK.use ?_; clear hK K))
        have Hg1 := Lib.hid (show nc (g1, g2) = subC (nc (k1, k2)) t0 by rw [← Hab.out]; exact Prod.ext hg1 hg2)
        clear hg1 hg2
        repeat (apply wpV_det; (exact rfl); (intro nq; go_simp; rfl); (intro K hK; go_simp; refine hK.use ?_; clear hK K))
        (apply wpV_call; (exact rfl); (intro nq; go_simp; exact ⟨rfl, rfl⟩); (intro nq; refine (long_spec (g1, g2) (Lib.hid (by rw [Hg1.out]; exact F1'.out)) _).mono ?_; rintro e w' ⟨a, mm, rfl, ha, rfl⟩; exact ⟨_, rfl, ⟨g1, g2, a, rfl, rfl, ha⟩, nq + mm, by simp [Nat.add_assoc]⟩); (rintro u ⟨x1, x2, d, hx, rfl, hd0⟩); (simp only [Array.mk.injEq, List.cons.injEq, Value.complex.injEq, true_and, and_true] at hx); (obtain ⟨rfl, rfl⟩ := hx); (have hd : nrm .f32 d = longF (subC (nc (k1, k2)) t0) := hd0.trans (congrArg longF Hg1.out)); clear hd0; (intro K hK; go_simp; refine hK.use ?_; clear hK K))
        repeat (apply wpV_det; (exact rfl); (intro nq; go_simp; rfl); (intro K hK; go_simp; refine hK.use ?_; clear hK K))
        (refine wpV_cadd .sub (.inr rfl) _ _ _ _ rfl _ _ _ _ rfl rfl rfl ?_; intro s1 s2 hs1 hs2; (intro K hK; go_simp; refine hK.use ?_; clear hK K))
        have Hs1 := Lib.hid (show nc (s1, s2) = subC (nc (q1, q2)) t0 by rw [← Hab.out]; exact Prod.ext hs1 hs2)
        clear hs1 hs2
        repeat (apply wpV_det; (exact rfl); (intro nq; go_simp; rfl); (intro K hK; go_simp; refine hK.use ?_; clear hK K))
        (apply wpV_call; (exact rfl); (intro nq; go_simp; exact ⟨rfl, rfl⟩); (intro nq; refine (long_spec (s1, s2) (Lib.hid (by rw [Hs1.out]; exact F2'.out)) _).mono ?_; rintro e w' ⟨a, mm, rfl, ha, rfl⟩; exact ⟨_, rfl, ⟨s1, s2, a, rfl, rfl, ha⟩, nq + mm, by simp [Nat.add_assoc]⟩); (rintro u ⟨x1, x2, r, hx, rfl, hr0⟩); (simp only [Array.mk.injEq, List.cons.injEq, Value.complex.injEq, true_and, and_true] at hx); (obtain ⟨rfl, rfl⟩ := hx); (have hr : nrm .f32 r = longF (subC (nc (q1, q2)) t0) := hr0.trans (congrArg longF Hs1.out)); clear hr0; (intro K hK; go_simp; refine hK.use ?_; clear hK K))
        repeat (apply wpV_det; (exact rfl); (intro nq; go_simp; rfl); (intro K hK; go_simp; refine hK.use ?_; clear hK K))
        refine wpV_nil (fun nq => ?_)
        refine wpList_nil ?_
        rw [← D1.out, ← D2.out]
        cases hcmp : fcmp .lss .f32 (distF L t0 k) (distF L t0 q)
        · have hB2 := Lib.hid (hB.out.trans (if_neg (by rw [hcmp]; decide)))
          clear hd hr
          go_wp2
          go_roundw
          case rel => exact ⟨k + 1, _, by omega, by go_num, by rw [hB2.out], rfl⟩
          case measure => simp [intOf]; omega
        · have hB2 := Lib.hid (hB.out.trans (if_pos hcmp))
          clear hd hr
          go_wp2
          go_roundw
          case rel => exact ⟨k + 1, _, by omega, by go_num, by rw [hB2.out], rfl⟩
          case measure => simp [intOf]; omega
      · obtain rfl : k = N := by omega
        go_wp2
        go_ret2
        exact ⟨rfl, below_drewN B1.out _⟩

end Go.Proofs.Ytalfkkagbajjcaa

/- The number that a start comes to, of the program. Conditions: a polynomial with roots, a finite number, 1 to 16 finite roots; what is narrowed fits float32. -/
namespace Go.Proofs.Ytalfkkagbajjcaa
set_option linter.unusedSimpArgs false
set_option linter.unusedVariables false
open Go Go.RowKit

def distI (L : List C2) (x : C2) (k : Nat) : Nat := longF (subC x (L.getD k (0, 0)))
def basinI (F L : List C2) (z : C2) (n : Nat) : Nat × Bool := if (polishF F n z).2 = true then (bestD (distI L (polishF F n z).1) L.length, true) else (0, false)

set_option maxRecDepth 100000 in
set_option maxHeartbeats 2000000 in
theorem basin_impl (v lv : Value) (rs ls : List C2) (z : C2) (n : Nat) (w : World) (hv : RdV w v (cx rs)) (h1 : 1 ≤ rs.length) (h2 : rs.length ≤ 17)
    (hl : RdV w lv (cx ls)) (hl1 : 1 ≤ ls.length) (hl2 : ls.length ≤ 16) (hlf : allFinC ls = true) (hroot : rootedF (rs.map nc) = true) (hfin : finC (nc z) = true) (hn : n ≤ 64) (Hs : RowKit.Hid (safePolish (rs.map nc) n (nc z)))
    (Hd : RowKit.Hid (∀ k, k < ls.length → fit1 (sqF (powerF (subC (polishF (rs.map nc) n (nc z)).1 ((ls.map nc).getD k (0, 0))))))) :
    Calls Try.prog 14 #[.agg #[v], lv, .complex .f32 z.1 z.2, .int .i64 n] w (RetIB (basinI (rs.map nc) (ls.map nc) (nc z) n) w) := by
  obtain ⟨ao, cap0, rfl, _⟩ := hv.shape
  rw [cx_length] at hv ⊢
  have Hv := Lib.hid hv
  have X0 := Lib.hid (World.cell?_alloc_new w #[.slice ao rs.length cap0] 38 0 : (w.alloc (.cells #[.slice ao rs.length cap0] 38)).cell? ⟨w.heap.size, 0, none⟩ = some (.slice ao rs.length cap0))
  have C := Lib.hid (fun w1 hv => polish_impl (.slice ao rs.length cap0) rs z n w1 hv h1 h2 hroot hfin hn Hs)
  have AR := Lib.hid (fun v w hv => areRoots_impl v ls w hv hl1 hl2)
  rw [hlf] at AR
  have HB := Lib.hid (show basinI (rs.map nc) (ls.map nc) (nc z) n = _ by unfold basinI; rfl)
  rw [HB.out]
  have Hl := Lib.hid hl
  clear HB hv h1 h2 hroot hfin hn Hs hlf
  generalize polishF (rs.map nc) n (nc z) = T at *
  obtain ⟨t0, ok⟩ := T
  dsimp only at *
  rcases hl.openC with ⟨rfl, _⟩ | ⟨b, off, cap, rfl, hb, hcp, hc⟩
  · simp at hl1
  have Hc := Lib.hid (show ∀ i, i < ls.length → w.cell? ⟨b, off + i, none⟩ = some (.complex .f32 (ls.getD i (0, 0)).1 (ls.getD i (0, 0)).2) from fun i hi => by
    rw [hc i hi]; simp [List.getD, hi])
  have Hg := Lib.hid (fun i => getD_nc ls i)
  rw [List.length_map]
  clear hl hc hcp
  have START : ∀ (Q : Exit → Act → World → Prop), True := fun _ => trivial
  clear START
  generalize ls.map nc = L at *
  cases ok
  · rw [if_neg (by decide)]
    go_enter Try.func14, Try.ntmps14
    go_wp2_with fail
    (go_at_call 19; ((with_reducible refine (AR.out _ _ (Hl.out.alloc _)).mono ?_); rintro e w1 ⟨rfl, hb1⟩))
    have xp : w1.cell? ⟨w.heap.size, 0, none⟩ = some (.slice ao rs.length cap0) := (hb1.cell (p := ⟨w.heap.size, 0, none⟩) (by simp)).trans X0.out
    have BB := Lib.hid (show Below w.heap.size w w1 from ((Below.refl _ _).alloc (Nat.le_refl _) _).trans (hb1.mono (by simp)))
    have V1 := Lib.hid ((Hv.out.alloc _).below hb1)
    clear hb1
    go_wp2_with fail
    (go_at_call 41; ((with_reducible refine (C.out _ V1.out).mono ?_); rintro e w2 ⟨a0, b0, rfl, _, _, hb2⟩))
    go_wp2_with fail
    go_ret2
    exact ⟨rfl, BB.out.trans (hb2.mono BB.out.size)⟩
  · rw [if_pos rfl]
    go_enter Try.func14, Try.ntmps14
    go_wp2_with fail
    (go_at_call 19; ((with_reducible refine (AR.out _ _ (Hl.out.alloc _)).mono ?_); rintro e w1 ⟨rfl, hb1⟩))
    have xp : w1.cell? ⟨w.heap.size, 0, none⟩ = some (.slice ao rs.length cap0) := (hb1.cell (p := ⟨w.heap.size, 0, none⟩) (by simp)).trans X0.out
    have BB := Lib.hid (show Below w.heap.size w w1 from ((Below.refl _ _).alloc (Nat.le_refl _) _).trans (hb1.mono (by simp)))
    have V1 := Lib.hid ((Hv.out.alloc _).below hb1)
    clear hb1
    go_wp2_with fail
    (go_at_call 41; ((with_reducible refine (C.out _ V1.out).mono ?_); rintro e w2 ⟨a0, b0, rfl, ha0, hb0, hb2⟩))
    have Hab := Lib.hid (show nc (a0, b0) = t0 from Prod.ext ha0 hb0)
    have B1 := Lib.hid (BB.out.trans (hb2.mono BB.out.size))
    clear ha0 hb0 C hb2 xp BB V1 AR Hl Hv X0
    generalize hN : ls.length = N at *
    clear hN
    go_wp2_with fail
    go_loopw [12, 13, 31] (fun dv bv i wr => ∃ (k m d : Nat), k ≤ N ∧ i = .int .i64 k ∧ dv = .float .f32 d ∧ bv = .int .i64 (bestD (distI L t0) k) ∧ (0 < k → nrm .f32 d = distI L t0 (bestD (distI L t0) k)) ∧ wr = w2.drewN m) (fun _ _ i _ => N - (intOf i).toNat)
    case atStart => exact ⟨0, 0, 0, Nat.zero_le _, rfl, rfl, rfl, fun h => absurd h (Nat.lt_irrefl 0), rfl⟩
    case round =>
      obtain ⟨k, m, d, hk, rfl, rfl, rfl, hd, rfl⟩ := hrel
      by_cases hlt : k < N
      · have hbl := bestD_le (distI L t0) k N hk (by omega)
        have hB := Lib.hid (show bestD (distI L t0) (k + 1) = if fcmp .lss .f32 (distI L t0 k) (distI L t0 (bestD (distI L t0) k)) = true then k else bestD (distI L t0) k from rfl)
        have hB0 := Lib.hid (show k = 0 → bestD (distI L t0) k = 0 from fun h => by subst h; rfl)
        generalize bestD (distI L t0) k = q at *
        have c1 := (B1.out.cell (p := ⟨b, off + k, none⟩) hb).trans (Hc.out k hlt)
        have F1 := Hd.out k hlt
        have E1 := Lib.hid (show L.getD k (0, 0) = nc (ls.getD k (0, 0)) from Hg.out k)
        have D1 := Lib.hid (show distI L t0 k = longF (subC t0 (nc (ls.getD k (0, 0)))) by rw [← E1.out]; rfl)
        rw [E1.out] at F1
        have F1' := Lib.hid F1
        have Hd0 := Lib.hid hd
        clear F1 hd
        generalize ls.getD k (0, 0) = lk at *
        obtain ⟨k1, k2⟩ := lk
        have j1 : (0 : Int) ≤ (k : Int) := by omega
        have j2 : (k : Int) < (N : Int) := by omega
        go_wp2_with fail
        refine (minus_impl (a0, b0) (k1, k2) _).mono ?_
        rw [Hab.out]
        rintro e w' ⟨g1, g2, m1, rfl, hg1, hg2, rfl⟩
        have Hg1 := Lib.hid (show nc (g1, g2) = subC t0 (nc (k1, k2)) from Prod.ext hg1 hg2)
        clear hg1 hg2
        go_wp2_with fail
        refine (long_impl (g1, g2) (Lib.hid (by rw [Hg1.out]; exact F1'.out)) _).mono ?_
        rw [Hg1.out, ← D1.out]
        rintro e w' ⟨r, m2, rfl, hr, rfl⟩
        have Hr := Lib.hid hr
        by_cases h0 : k = 0
        · have hB2 := Lib.hid (show bestD (distI L t0) (k + 1) = 0 by rw [hB.out, hB0.out h0, h0]; split <;> rfl)
          have e0 : ((k : Int) == 0) = true := by rw [h0]; rfl
          have Hk := Lib.hid h0
          clear h0 hr
          go_wp2
          go_roundw
          case rel => exact ⟨k + 1, _, r, by omega, by go_num, rfl, by rw [hB2.out, Hk.out], fun _ => by rw [Hr.out, hB2.out, Hk.out], rfl⟩
          case measure => simp [intOf]; omega
        · have e0 : ((k : Int) == 0) = false := by simp; omega
          have hd := Hd0.out (by omega)
          cases hcmp : fcmp .lss .f32 (distI L t0 k) (distI L t0 q)
          · have hB2 := Lib.hid (hB.out.trans (if_neg (by rw [hcmp]; decide)))
            have hc2 : fcmp .lss .f32 (nrm .f32 r) (nrm .f32 d) = false := by rw [hr, hd]; exact hcmp
            have Hd2 := Lib.hid hd
            clear hr hd hcmp h0
            go_wp2
            go_roundw
            case rel => exact ⟨k + 1, _, d, by omega, by go_num, rfl, by rw [hB2.out], fun _ => by rw [hB2.out]; exact Hd2.out, rfl⟩
            case measure => simp [intOf]; omega
          · have hB2 := Lib.hid (hB.out.trans (if_pos hcmp))
            have hc2 : fcmp .lss .f32 (nrm .f32 r) (nrm .f32 d) = true := by rw [hr, hd]; exact hcmp
            clear hr hd hcmp h0
            go_wp2
            go_roundw
            case rel => exact ⟨k + 1, _, r, by omega, by go_num, rfl, by rw [hB2.out], fun _ => by rw [hB2.out]; exact Hr.out, rfl⟩
            case measure => simp [intOf]; omega
      · obtain rfl : k = N := by omega
        go_wp2
        go_ret2
        exact ⟨rfl, below_drewN B1.out _⟩

end Go.Proofs.Ytalfkkagbajjcaa

/- Boxes, workers and times. Conditions: those of the statements. -/
namespace Go.Proofs.Ytalfkkagbajjcaa
set_option linter.unusedSimpArgs false
set_option linter.unusedVariables false
open Go Go.RowKit

/-- A box: both ends and the size finite, the size above 0. -/
def boxF (lo hi : C2) : Bool := finC lo && finC hi && finC (subC hi lo) && fcmp .gtr .f32 (subC hi lo).1 (nrm .f32 0) && fcmp .gtr .f32 (subC hi lo).2 (nrm .f32 0)

theorem workers_impl (n : Int) (h1 : 1 ≤ n) (h2 : n ≤ 8) (w : World) : Calls Try.prog 40 #[.int .i64 n] w fun e w' => e = .returned (.bool true) ∧ w = w' := by
  have H := Lib.hid (show inB 1 n 8 = true by simp [inB]; omega)
  go_enter Try.func40, Try.ntmps40
  go_wp2_with (go_at_call 39; go_must (refine (within_impl _ _ _ _).mono ?_); rw [H.out]; rintro e w' ⟨rfl, rfl⟩)
  go_ret
  exact ⟨rfl, rfl⟩
theorem times_spec (n lo : Int) (h1 : lo ≤ n) (h2 : n ≤ 64) (w : World) : Calls Try.prog 35 #[.int .i64 n, .int .i64 lo] w fun e w' => e = .returned (.bool true) ∧ w = w' := by
  have H := Lib.hid (show inB lo n 64 = true by simp [inB]; omega)
  go_enter Try.func35, Try.ntmps35
  go_wp2_with (go_at_call 34; go_must (refine (in_spec _ _ _ _).mono ?_); rw [H.out]; rintro e w' ⟨rfl, rfl⟩)
  go_ret
  exact ⟨rfl, rfl⟩

theorem rd_c3 {w : World} {s : Nat} (hs : s = w.heap.size) (x y z : C2) : RdV (w.alloc (.cells #[.complex .f32 x.1 x.2, .complex .f32 y.1 y.2, .complex .f32 z.1 z.2] 35)) (.slice (some ⟨s, 0, none⟩) 3 3) (cx [x, y, z]) := by
  subst hs
  have hc : ∀ j, (w.alloc (.cells #[.complex .f32 x.1 x.2, .complex .f32 y.1 y.2, .complex .f32 z.1 z.2] 35)).cell? ⟨w.heap.size, j, none⟩ = #[Value.complex .f32 x.1 x.2, .complex .f32 y.1 y.2, .complex .f32 z.1 z.2][j]? := fun j => World.cell?_alloc_new w _ _ j
  refine ⟨_, 3, rfl, ⟨Nat.le_refl _, by decide⟩, .inr ⟨w.heap.size, 0, rfl, fun i hi => ?_⟩⟩
  have h3 : i = 0 ∨ i = 1 ∨ i = 2 := by simp at hi; omega
  rcases h3 with rfl | rfl | rfl
  · exact hc 0
  · exact hc 1
  · exact hc 2

set_option maxRecDepth 100000 in
theorem box_impl (lo hi : C2) (hb : boxF (nc lo) (nc hi) = true) (w : World) : Calls Try.prog 38 #[.complex .f32 lo.1 lo.2, .complex .f32 hi.1 hi.2] w (RB true w) := by
  unfold boxF at hb
  simp only [Bool.and_eq_true] at hb
  obtain ⟨⟨⟨⟨h1, h2⟩, h3⟩, h4⟩, h5⟩ := hb
  have H3 := Lib.hid h3
  have H4 := Lib.hid h4
  have H5 := Lib.hid h5
  have H1 := Lib.hid h1
  have H2 := Lib.hid h2
  clear h1 h2 h3 h4 h5
  go_enter Try.func38, Try.ntmps38
  go_wp2_with fail
  refine (minus_impl hi lo _).mono ?_
  rintro e w' ⟨a, b, m, rfl, ha, hb, rfl⟩
  have Hab := Lib.hid (show nc (a, b) = subC (nc hi) (nc lo) from Prod.ext ha hb)
  have Ha := Lib.hid (show fcmp .gtr .f32 (nrm .f32 a) (nrm .f32 0) = true by rw [ha]; exact H4.out)
  have Hb := Lib.hid (show fcmp .gtr .f32 (nrm .f32 b) (nrm .f32 0) = true by rw [hb]; exact H5.out)
  clear ha hb
  go_wp2_with fail
  (go_at_call 44; ((with_reducible refine (allFinite_impl _ [lo, hi, (a, b)] _ (rd_c3 (w := w.drewN m) (s := w.heap.size) rfl lo hi (a, b)) (by simp)).mono ?_); rintro e w2 ⟨rfl, hb2⟩))
  rw [show allFinC [lo, hi, (a, b)] = true by simp only [allFinC, List.all_cons, List.all_nil, Bool.and_true]; rw [H1.out, H2.out, Hab.out, H3.out]; rfl]
  have BB := Lib.hid (show Below w.heap.size w w2 from ((below_drewN (Below.refl _ _) m).alloc (Nat.le_refl _) _).trans (hb2.mono (by simp)))
  have ha := Ha.out
  have hb := Hb.out
  clear hb2
  go_wp2_with fail
  go_ret
  exact ⟨by simp, BB.out⟩

set_option maxRecDepth 100000 in
theorem box_spec (lo hi : C2) (hb : boxF (nc lo) (nc hi) = true) (w : World) : Calls Try.prog 33 #[.complex .f32 lo.1 lo.2, .complex .f32 hi.1 hi.2] w (RetB true w) := by
  unfold boxF at hb
  simp only [Bool.and_eq_true] at hb
  obtain ⟨⟨⟨⟨h1, h2⟩, h3⟩, h4⟩, h5⟩ := hb
  have H3 := Lib.hid h3
  have H4 := Lib.hid h4
  have H5 := Lib.hid h5
  have H1 := Lib.hid h1
  have H2 := Lib.hid h2
  clear h1 h2 h3 h4 h5
  go_enter Try.func33, Try.ntmps33
  go_wp2_with (with_reducible refine wpList_cadd rfl .sub (.inr rfl) _ _ _ _ rfl _ _ _ _ rfl rfl ?_; intro a b m ha hb)
  have Hab := Lib.hid (show nc (a, b) = subC (nc hi) (nc lo) from Prod.ext ha hb)
  have Ha := Lib.hid (show fcmp .gtr .f32 (nrm .f32 a) (nrm .f32 0) = true by rw [ha]; exact H4.out)
  have Hb := Lib.hid (show fcmp .gtr .f32 (nrm .f32 b) (nrm .f32 0) = true by rw [hb]; exact H5.out)
  clear ha hb
  refine (cfin1_spec lo _).mono ?_
  rw [H1.out]
  rintro e w' ⟨m1, rfl, rfl⟩
  go_wp2_with fail
  refine (cfin1_spec hi _).mono ?_
  rw [H2.out]
  rintro e w' ⟨m2, rfl, rfl⟩
  go_wp2_with fail
  refine (cfin1_spec (a, b) _).mono ?_
  rw [Hab.out, H3.out]
  rintro e w' ⟨m3, rfl, rfl⟩
  have ha := Ha.out
  have hb := Hb.out
  go_wp2_with fail
  go_ret
  exact ⟨_, by simp, rfl⟩

end Go.Proofs.Ytalfkkagbajjcaa
