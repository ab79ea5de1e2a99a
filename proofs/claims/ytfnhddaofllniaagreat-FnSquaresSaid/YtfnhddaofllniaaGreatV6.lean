/- One Newton step, of the program. Conditions: polynomials of 1 to 17 terms; what is narrowed fits float32. -/
import Derived.Test.YtfnhddaofllniaaGreatV5
namespace Go.Proofs.YtfnhddaofllniaaGreat
set_option linter.unusedSimpArgs false
set_option linter.unusedVariables false
open Go Go.RowKit

set_option maxRecDepth 100000 in
set_option maxHeartbeats 4000000 in
theorem step_impl (v : Value) (rs : List C2) (z : C2) (w : World) (hv : RdV w v (cx rs)) (h1 : 1 ≤ rs.length) (h2 : rs.length ≤ 17) (Hs : RowKit.Hid (safeStep (rs.map nc) (nc z))) :
    Calls Tryz.prog 101 #[.agg #[v], .complex .f32 z.1 z.2] w (RetXB (stepF (rs.map nc) (nc z)) w) := by
  have n0 := nrm0
  have Ha := Lib.hid (show allFinC [z] = finC (nc z) by simp [allFinC])
  obtain ⟨ao, cap, rfl, _⟩ := hv.shape
  rw [cx_length] at hv ⊢
  have Hv := Lib.hid hv
  clear hv
  have X0 := Lib.hid (World.cell?_alloc_new w #[.slice ao rs.length cap] 28 0 : (w.alloc (.cells #[.slice ao rs.length cap] 28)).cell? ⟨w.heap.size, 0, none⟩ = some (.slice ao rs.length cap))
  obtain ⟨hs1, hs2, hs3⟩ : safeN (rs.map nc) (nc z) ∧ safeN (slopePolyF (rs.map nc)).1 (nc z) ∧ quoFit (polyAtF (rs.map nc) (nc z)).1 (polyAtF (slopePolyF (rs.map nc)).1 (nc z)).1 := Hs.out
  have Hs1 := Lib.hid hs1
  have Hs2 := Lib.hid hs2
  have Hs3 := Lib.hid hs3
  have HR := Lib.hid (show (slopePolyF (rs.map nc)).2 = true → 1 ≤ (slopePolyF (rs.map nc)).1.length from fun h => by
    unfold slopePolyF at h ⊢
    split
    · rename_i hh; rw [if_pos hh] at h; exact polyF_pos (slopeF_length _ (by simpa using h1)).1 h
    · rename_i hh; rw [if_neg hh] at h; cases h)
  have HR2 := Lib.hid (show (slopePolyF (rs.map nc)).1.length ≤ 17 from by
    unfold slopePolyF
    split
    · have h3 := polyF_le (F := slopeF (rs.map nc))
      have h4 := (slopeF_length (rs.map nc) (by simpa using h1)).2
      rw [List.length_map] at h4
      omega
    · simp)
  clear hs1 hs2 hs3 Hs
  by_cases hg : (rootedF (rs.map nc) && finC (nc z)) = true
  · obtain ⟨hroot, hfin⟩ : rootedF (rs.map nc) = true ∧ finC (nc z) = true := by simpa using hg
    have HF := Lib.hid (show stepF (rs.map nc) (nc z) = _ by unfold stepF; rw [if_pos hg])
    rw [HF.out]
    clear hg HF
    have Pimpl := Lib.hid (fun v w hv => polyAt_impl v rs z w hv h1 h2 (Lib.hid fun _ _ => Hs1.out))
    have Simpl := Lib.hid (fun v w hv => slope_impl v rs w hv h1 h2)
    have Rimpl := Lib.hid (fun v w hv => rooted_impl v rs w hv h1 h2)
    clear Hs1
    generalize polyAtF (rs.map nc) (nc z) = V at *
    generalize slopePolyF (rs.map nc) = SP at *
    obtain ⟨v0, ok⟩ := V
    obtain ⟨S, ok2⟩ := SP
    dsimp only at *
    rw [hroot] at Rimpl
    cases ok
    · rw [if_neg (by decide)]
      go_enter Tryz.func101, Tryz.ntmps101
      go_wp2_with fail
      (go_at_call 27; ((with_reducible refine (Rimpl.out _ _ (Hv.out.alloc _)).mono ?_); rintro e w1 ⟨rfl, hb1⟩))
      have xp : w1.cell? ⟨w.heap.size, 0, none⟩ = some (.slice ao rs.length cap) := (hb1.cell (p := ⟨w.heap.size, 0, none⟩) (by simp)).trans X0.out
      have lp : w.heap.size < w1.heap.size := by have := hb1.size; simp only [World.size_alloc] at this; omega
      have BB := Lib.hid (show Below w.heap.size w w1 from ((Below.refl _ _).alloc (Nat.le_refl _) _).trans (hb1.mono (by simp)))
      have V1 := Lib.hid ((Hv.out.alloc _).below hb1)
      clear hb1
      go_wp2_with fail
      (go_at_call 41; ((with_reducible refine (allFinite_impl _ [z] _ (rd_c1 rfl z) (by simp)).mono ?_); rintro e w2 ⟨rfl, hb2⟩))
      rw [Ha.out, hfin]
      have lp2 : w.heap.size ≤ w1.heap.size := by omega
      replace BB := Lib.hid (show Below w.heap.size w w2 from (BB.out.alloc BB.out.size _).trans (hb2.mono (by simp; omega)))
      replace xp := ((hb2.cell (p := ⟨w.heap.size, 0, none⟩) (by simp; omega)).trans (((Below.refl _ _).alloc (Nat.le_refl _) _).cell (p := ⟨w.heap.size, 0, none⟩) lp)).trans xp
      replace V1 := Lib.hid ((V1.out.alloc _).below hb2)
      replace lp : w.heap.size < w2.heap.size := World.block_lt_of_cell? _ _ xp
      clear hb2
      go_wp2_with fail
      (go_at_call 11; ((with_reducible refine (Pimpl.out _ _ V1.out).mono ?_); rintro e w3 ⟨a, b, rfl, ha, hb, hb3⟩))
      replace BB := Lib.hid (show Below w.heap.size w w3 from BB.out.trans (hb3.mono BB.out.size))
      replace xp := (hb3.cell (p := ⟨w.heap.size, 0, none⟩) lp).trans xp
      replace V1 := Lib.hid (V1.out.below hb3)
      replace lp : w.heap.size < w3.heap.size := World.block_lt_of_cell? _ _ xp
      have Hab := Lib.hid (show nc (a, b) = v0 from Prod.ext ha hb)
      clear hb3 ha hb
      go_wp2_with fail
      go_ret2
      exact ⟨_, _, rfl, n0, n0, BB.out⟩
    · rw [if_pos rfl]
      by_cases hz : zeroC v0 = true
      · rw [if_pos hz]
        go_enter Tryz.func101, Tryz.ntmps101
        go_wp2_with fail
        (go_at_call 27; ((with_reducible refine (Rimpl.out _ _ (Hv.out.alloc _)).mono ?_); rintro e w1 ⟨rfl, hb1⟩))
        have xp : w1.cell? ⟨w.heap.size, 0, none⟩ = some (.slice ao rs.length cap) := (hb1.cell (p := ⟨w.heap.size, 0, none⟩) (by simp)).trans X0.out
        have lp : w.heap.size < w1.heap.size := by have := hb1.size; simp only [World.size_alloc] at this; omega
        have BB := Lib.hid (show Below w.heap.size w w1 from ((Below.refl _ _).alloc (Nat.le_refl _) _).trans (hb1.mono (by simp)))
        have V1 := Lib.hid ((Hv.out.alloc _).below hb1)
        clear hb1
        go_wp2_with fail
        (go_at_call 41; ((with_reducible refine (allFinite_impl _ [z] _ (rd_c1 rfl z) (by simp)).mono ?_); rintro e w2 ⟨rfl, hb2⟩))
        rw [Ha.out, hfin]
        have lp2 : w.heap.size ≤ w1.heap.size := by omega
        replace BB := Lib.hid (show Below w.heap.size w w2 from (BB.out.alloc BB.out.size _).trans (hb2.mono (by simp; omega)))
        replace xp := ((hb2.cell (p := ⟨w.heap.size, 0, none⟩) (by simp; omega)).trans (((Below.refl _ _).alloc (Nat.le_refl _) _).cell (p := ⟨w.heap.size, 0, none⟩) lp)).trans xp
        replace V1 := Lib.hid ((V1.out.alloc _).below hb2)
        replace lp : w.heap.size < w2.heap.size := World.block_lt_of_cell? _ _ xp
        clear hb2
        go_wp2_with fail
        (go_at_call 11; ((with_reducible refine (Pimpl.out _ _ V1.out).mono ?_); rintro e w3 ⟨a, b, rfl, ha, hb, hb3⟩))
        replace BB := Lib.hid (show Below w.heap.size w w3 from BB.out.trans (hb3.mono BB.out.size))
        replace xp := (hb3.cell (p := ⟨w.heap.size, 0, none⟩) lp).trans xp
        replace V1 := Lib.hid (V1.out.below hb3)
        replace lp : w.heap.size < w3.heap.size := World.block_lt_of_cell? _ _ xp
        have Hab := Lib.hid (show nc (a, b) = v0 from Prod.ext ha hb)
        clear hb3 ha hb
        have hz2 : zeroC (nc (a, b)) = true := by rw [Hab.out]; exact hz
        clear hz
        go_wp2_with fail
        go_ret2
        exact ⟨_, _, rfl, rfl, rfl, BB.out⟩
      · rw [if_neg hz]
        have hz0 : zeroC v0 = false := by simpa using hz
        clear hz
        cases ok2
        · rw [if_neg (by decide)]
          go_enter Tryz.func101, Tryz.ntmps101
          go_wp2_with fail
          (go_at_call 27; ((with_reducible refine (Rimpl.out _ _ (Hv.out.alloc _)).mono ?_); rintro e w1 ⟨rfl, hb1⟩))
          have xp : w1.cell? ⟨w.heap.size, 0, none⟩ = some (.slice ao rs.length cap) := (hb1.cell (p := ⟨w.heap.size, 0, none⟩) (by simp)).trans X0.out
          have lp : w.heap.size < w1.heap.size := by have := hb1.size; simp only [World.size_alloc] at this; omega
          have BB := Lib.hid (show Below w.heap.size w w1 from ((Below.refl _ _).alloc (Nat.le_refl _) _).trans (hb1.mono (by simp)))
          have V1 := Lib.hid ((Hv.out.alloc _).below hb1)
          clear hb1
          go_wp2_with fail
          (go_at_call 41; ((with_reducible refine (allFinite_impl _ [z] _ (rd_c1 rfl z) (by simp)).mono ?_); rintro e w2 ⟨rfl, hb2⟩))
          rw [Ha.out, hfin]
          have lp2 : w.heap.size ≤ w1.heap.size := by omega
          replace BB := Lib.hid (show Below w.heap.size w w2 from (BB.out.alloc BB.out.size _).trans (hb2.mono (by simp; omega)))
          replace xp := ((hb2.cell (p := ⟨w.heap.size, 0, none⟩) (by simp; omega)).trans (((Below.refl _ _).alloc (Nat.le_refl _) _).cell (p := ⟨w.heap.size, 0, none⟩) lp)).trans xp
          replace V1 := Lib.hid ((V1.out.alloc _).below hb2)
          replace lp : w.heap.size < w2.heap.size := World.block_lt_of_cell? _ _ xp
          clear hb2
          go_wp2_with fail
          (go_at_call 11; ((with_reducible refine (Pimpl.out _ _ V1.out).mono ?_); rintro e w3 ⟨a, b, rfl, ha, hb, hb3⟩))
          replace BB := Lib.hid (show Below w.heap.size w w3 from BB.out.trans (hb3.mono BB.out.size))
          replace xp := (hb3.cell (p := ⟨w.heap.size, 0, none⟩) lp).trans xp
          replace V1 := Lib.hid (V1.out.below hb3)
          replace lp : w.heap.size < w3.heap.size := World.block_lt_of_cell? _ _ xp
          have Hab := Lib.hid (show nc (a, b) = v0 from Prod.ext ha hb)
          clear hb3 ha hb
          have hz2 : zeroC (nc (a, b)) = false := by rw [Hab.out]; exact hz0
          go_wp2_with fail
          (go_at_call 115; ((with_reducible refine (Simpl.out _ _ V1.out).mono ?_); rintro e w4 ⟨v2, qs, rfl, hqs, ho2, hb4⟩))
          replace BB := Lib.hid (show Below w.heap.size w w4 from BB.out.trans (hb4.mono BB.out.size))
          have Hqs := Lib.hid hqs
          have V2 := Lib.hid ho2.rd
          clear hb4 hqs ho2 xp lp V1
          obtain ⟨ao2, cap2, rfl, _⟩ := V2.out.shape
          rw [cx_length] at V2 ⊢
          go_wp2_with fail
          go_ret2
          exact ⟨_, _, rfl, n0, n0, BB.out.alloc BB.out.size _⟩
        · rw [if_pos rfl]
          have hS1 : 1 ≤ S.length := HR.out rfl
          have hS2 : S.length ≤ 17 := HR2.out
          generalize hT : polyAtF S (nc z) = T at *
          obtain ⟨t0, ok3⟩ := T
          have HT := Lib.hid hT
          clear hT HR HR2
          dsimp only at *
          cases ok3
          · rw [Bool.false_and, if_neg (by decide)]
            go_enter Tryz.func101, Tryz.ntmps101
            go_wp2_with fail
            (go_at_call 27; ((with_reducible refine (Rimpl.out _ _ (Hv.out.alloc _)).mono ?_); rintro e w1 ⟨rfl, hb1⟩))
            have xp : w1.cell? ⟨w.heap.size, 0, none⟩ = some (.slice ao rs.length cap) := (hb1.cell (p := ⟨w.heap.size, 0, none⟩) (by simp)).trans X0.out
            have lp : w.heap.size < w1.heap.size := by have := hb1.size; simp only [World.size_alloc] at this; omega
            have BB := Lib.hid (show Below w.heap.size w w1 from ((Below.refl _ _).alloc (Nat.le_refl _) _).trans (hb1.mono (by simp)))
            have V1 := Lib.hid ((Hv.out.alloc _).below hb1)
            clear hb1
            go_wp2_with fail
            (go_at_call 41; ((with_reducible refine (allFinite_impl _ [z] _ (rd_c1 rfl z) (by simp)).mono ?_); rintro e w2 ⟨rfl, hb2⟩))
            rw [Ha.out, hfin]
            have lp2 : w.heap.size ≤ w1.heap.size := by omega
            replace BB := Lib.hid (show Below w.heap.size w w2 from (BB.out.alloc BB.out.size _).trans (hb2.mono (by simp; omega)))
            replace xp := ((hb2.cell (p := ⟨w.heap.size, 0, none⟩) (by simp; omega)).trans (((Below.refl _ _).alloc (Nat.le_refl _) _).cell (p := ⟨w.heap.size, 0, none⟩) lp)).trans xp
            replace V1 := Lib.hid ((V1.out.alloc _).below hb2)
            replace lp : w.heap.size < w2.heap.size := World.block_lt_of_cell? _ _ xp
            clear hb2
            go_wp2_with fail
            (go_at_call 11; ((with_reducible refine (Pimpl.out _ _ V1.out).mono ?_); rintro e w3 ⟨a, b, rfl, ha, hb, hb3⟩))
            replace BB := Lib.hid (show Below w.heap.size w w3 from BB.out.trans (hb3.mono BB.out.size))
            replace xp := (hb3.cell (p := ⟨w.heap.size, 0, none⟩) lp).trans xp
            replace V1 := Lib.hid (V1.out.below hb3)
            replace lp : w.heap.size < w3.heap.size := World.block_lt_of_cell? _ _ xp
            have Hab := Lib.hid (show nc (a, b) = v0 from Prod.ext ha hb)
            clear hb3 ha hb
            have hz2 : zeroC (nc (a, b)) = false := by rw [Hab.out]; exact hz0
            go_wp2_with fail
            (go_at_call 115; ((with_reducible refine (Simpl.out _ _ V1.out).mono ?_); rintro e w4 ⟨v2, qs, rfl, hqs, ho2, hb4⟩))
            replace BB := Lib.hid (show Below w.heap.size w w4 from BB.out.trans (hb4.mono BB.out.size))
            have Hqs := Lib.hid hqs
            have V2 := Lib.hid ho2.rd
            clear hb4 hqs ho2 xp lp V1
            obtain ⟨ao2, cap2, rfl, _⟩ := V2.out.shape
            rw [cx_length] at V2 ⊢
            go_wp2_with fail
            have hq1 : 1 ≤ qs.length := by have := congrArg List.length Hqs.out; simp only [List.length_map] at this; omega
            have hq2 : qs.length ≤ 17 := by have := congrArg List.length Hqs.out; simp only [List.length_map] at this; omega
            (go_at_call 11; ((with_reducible refine (polyAt_impl _ qs z _ (V2.out.alloc _) hq1 hq2 (Lib.hid fun _ _ => by rw [Hqs.out]; exact Hs2.out)).mono ?_); rw [Hqs.out, HT.out]; rintro e w5 ⟨c, d, rfl, hc, hd, hb5⟩))
            replace BB := Lib.hid (show Below w.heap.size w w5 from (BB.out.alloc BB.out.size _).trans (hb5.mono (by have := BB.out.size; simp; omega)))
            have Hcd := Lib.hid (show nc (c, d) = t0 from Prod.ext hc hd)
            clear hb5 hc hd
            go_wp2_with fail
            (go_at_call 116; ((with_reducible refine (quo_impl (a, b) (c, d) (Lib.hid (by rw [Hab.out, Hcd.out]; exact Hs3.out)) _).mono ?_); rw [Hab.out, Hcd.out]; rintro e w' ⟨p, q, m, rfl, hp, hq', rfl⟩))
            have Hpq := Lib.hid (show nc (p, q) = quoC v0 t0 from Prod.ext hp hq')
            replace BB := Lib.hid (show Below w.heap.size w (w5.drewN m) from below_drewN BB.out _)
            clear hp hq'
            go_wp2_with fail
            go_ret2
            exact ⟨_, _, rfl, n0, n0, by have h := BB.out; (repeat' (first | (with_reducible exact Below.refl _ _) | (with_reducible assumption) | (with_reducible refine Below.alloc ?_ ?_ _) | (with_reducible refine Below.setCell ?_ ?_ _) | (with_reducible refine below_drewN ?_ _) | (with_reducible refine Below.via (by assumption) ?_ ?_) | go_size))⟩
          · rw [Bool.true_and]
            cases hq : finC (quoC v0 t0)
            · rw [if_neg (by decide)]
              go_enter Tryz.func101, Tryz.ntmps101
              go_wp2_with fail
              (go_at_call 27; ((with_reducible refine (Rimpl.out _ _ (Hv.out.alloc _)).mono ?_); rintro e w1 ⟨rfl, hb1⟩))
              have xp : w1.cell? ⟨w.heap.size, 0, none⟩ = some (.slice ao rs.length cap) := (hb1.cell (p := ⟨w.heap.size, 0, none⟩) (by simp)).trans X0.out
              have lp : w.heap.size < w1.heap.size := by have := hb1.size; simp only [World.size_alloc] at this; omega
              have BB := Lib.hid (show Below w.heap.size w w1 from ((Below.refl _ _).alloc (Nat.le_refl _) _).trans (hb1.mono (by simp)))
              have V1 := Lib.hid ((Hv.out.alloc _).below hb1)
              clear hb1
              go_wp2_with fail
              (go_at_call 41; ((with_reducible refine (allFinite_impl _ [z] _ (rd_c1 rfl z) (by simp)).mono ?_); rintro e w2 ⟨rfl, hb2⟩))
              rw [Ha.out, hfin]
              have lp2 : w.heap.size ≤ w1.heap.size := by omega
              replace BB := Lib.hid (show Below w.heap.size w w2 from (BB.out.alloc BB.out.size _).trans (hb2.mono (by simp; omega)))
              replace xp := ((hb2.cell (p := ⟨w.heap.size, 0, none⟩) (by simp; omega)).trans (((Below.refl _ _).alloc (Nat.le_refl _) _).cell (p := ⟨w.heap.size, 0, none⟩) lp)).trans xp
              replace V1 := Lib.hid ((V1.out.alloc _).below hb2)
              replace lp : w.heap.size < w2.heap.size := World.block_lt_of_cell? _ _ xp
              clear hb2
              go_wp2_with fail
              (go_at_call 11; ((with_reducible refine (Pimpl.out _ _ V1.out).mono ?_); rintro e w3 ⟨a, b, rfl, ha, hb, hb3⟩))
              replace BB := Lib.hid (show Below w.heap.size w w3 from BB.out.trans (hb3.mono BB.out.size))
              replace xp := (hb3.cell (p := ⟨w.heap.size, 0, none⟩) lp).trans xp
              replace V1 := Lib.hid (V1.out.below hb3)
              replace lp : w.heap.size < w3.heap.size := World.block_lt_of_cell? _ _ xp
              have Hab := Lib.hid (show nc (a, b) = v0 from Prod.ext ha hb)
              clear hb3 ha hb
              have hz2 : zeroC (nc (a, b)) = false := by rw [Hab.out]; exact hz0
              go_wp2_with fail
              (go_at_call 115; ((with_reducible refine (Simpl.out _ _ V1.out).mono ?_); rintro e w4 ⟨v2, qs, rfl, hqs, ho2, hb4⟩))
              replace BB := Lib.hid (show Below w.heap.size w w4 from BB.out.trans (hb4.mono BB.out.size))
              have Hqs := Lib.hid hqs
              have V2 := Lib.hid ho2.rd
              clear hb4 hqs ho2 xp lp V1
              obtain ⟨ao2, cap2, rfl, _⟩ := V2.out.shape
              rw [cx_length] at V2 ⊢
              go_wp2_with fail
              have hq1 : 1 ≤ qs.length := by have := congrArg List.length Hqs.out; simp only [List.length_map] at this; omega
              have hq2 : qs.length ≤ 17 := by have := congrArg List.length Hqs.out; simp only [List.length_map] at this; omega
              (go_at_call 11; ((with_reducible refine (polyAt_impl _ qs z _ (V2.out.alloc _) hq1 hq2 (Lib.hid fun _ _ => by rw [Hqs.out]; exact Hs2.out)).mono ?_); rw [Hqs.out, HT.out]; rintro e w5 ⟨c, d, rfl, hc, hd, hb5⟩))
              replace BB := Lib.hid (show Below w.heap.size w w5 from (BB.out.alloc BB.out.size _).trans (hb5.mono (by have := BB.out.size; simp; omega)))
              have Hcd := Lib.hid (show nc (c, d) = t0 from Prod.ext hc hd)
              clear hb5 hc hd
              go_wp2_with fail
              (go_at_call 116; ((with_reducible refine (quo_impl (a, b) (c, d) (Lib.hid (by rw [Hab.out, Hcd.out]; exact Hs3.out)) _).mono ?_); rw [Hab.out, Hcd.out]; rintro e w' ⟨p, q, m, rfl, hp, hq', rfl⟩))
              have Hpq := Lib.hid (show nc (p, q) = quoC v0 t0 from Prod.ext hp hq')
              replace BB := Lib.hid (show Below w.heap.size w (w5.drewN m) from below_drewN BB.out _)
              clear hp hq'
              go_wp2_with fail
              (go_at_call 41; ((with_reducible refine (allFinite_impl _ [(p, q)] _ (rd_c1 (w := w5.drewN m) (s := w5.heap.size) rfl (p, q)) (by simp)).mono ?_); rintro e w6 ⟨rfl, hb6⟩))
              rw [show allFinC [(p, q)] = false by simp only [allFinC, List.all_cons, List.all_nil, Bool.and_true]; rw [Hpq.out]; exact hq]
              replace BB := Lib.hid (show Below w.heap.size w w6 from BB.out.trans ((((Below.refl _ _).alloc (Nat.le_refl _) _).trans (hb6.mono (by simp))).mono BB.out.size))
              go_wp2_with fail
              go_ret2
              exact ⟨_, _, rfl, n0, n0, BB.out⟩
            · rw [if_pos rfl]
              go_enter Tryz.func101, Tryz.ntmps101
              go_wp2_with fail
              (go_at_call 27; ((with_reducible refine (Rimpl.out _ _ (Hv.out.alloc _)).mono ?_); rintro e w1 ⟨rfl, hb1⟩))
              have xp : w1.cell? ⟨w.heap.size, 0, none⟩ = some (.slice ao rs.length cap) := (hb1.cell (p := ⟨w.heap.size, 0, none⟩) (by simp)).trans X0.out
              have lp : w.heap.size < w1.heap.size := by have := hb1.size; simp only [World.size_alloc] at this; omega
              have BB := Lib.hid (show Below w.heap.size w w1 from ((Below.refl _ _).alloc (Nat.le_refl _) _).trans (hb1.mono (by simp)))
              have V1 := Lib.hid ((Hv.out.alloc _).below hb1)
              clear hb1
              go_wp2_with fail
              (go_at_call 41; ((with_reducible refine (allFinite_impl _ [z] _ (rd_c1 rfl z) (by simp)).mono ?_); rintro e w2 ⟨rfl, hb2⟩))
              rw [Ha.out, hfin]
              have lp2 : w.heap.size ≤ w1.heap.size := by omega
              replace BB := Lib.hid (show Below w.heap.size w w2 from (BB.out.alloc BB.out.size _).trans (hb2.mono (by simp; omega)))
              replace xp := ((hb2.cell (p := ⟨w.heap.size, 0, none⟩) (by simp; omega)).trans (((Below.refl _ _).alloc (Nat.le_refl _) _).cell (p := ⟨w.heap.size, 0, none⟩) lp)).trans xp
              replace V1 := Lib.hid ((V1.out.alloc _).below hb2)
              replace lp : w.heap.size < w2.heap.size := World.block_lt_of_cell? _ _ xp
              clear hb2
              go_wp2_with fail
              (go_at_call 11; ((with_reducible refine (Pimpl.out _ _ V1.out).mono ?_); rintro e w3 ⟨a, b, rfl, ha, hb, hb3⟩))
              replace BB := Lib.hid (show Below w.heap.size w w3 from BB.out.trans (hb3.mono BB.out.size))
              replace xp := (hb3.cell (p := ⟨w.heap.size, 0, none⟩) lp).trans xp
              replace V1 := Lib.hid (V1.out.below hb3)
              replace lp : w.heap.size < w3.heap.size := World.block_lt_of_cell? _ _ xp
              have Hab := Lib.hid (show nc (a, b) = v0 from Prod.ext ha hb)
              clear hb3 ha hb
              have hz2 : zeroC (nc (a, b)) = false := by rw [Hab.out]; exact hz0
              go_wp2_with fail
              (go_at_call 115; ((with_reducible refine (Simpl.out _ _ V1.out).mono ?_); rintro e w4 ⟨v2, qs, rfl, hqs, ho2, hb4⟩))
              replace BB := Lib.hid (show Below w.heap.size w w4 from BB.out.trans (hb4.mono BB.out.size))
              have Hqs := Lib.hid hqs
              have V2 := Lib.hid ho2.rd
              clear hb4 hqs ho2 xp lp V1
              obtain ⟨ao2, cap2, rfl, _⟩ := V2.out.shape
              rw [cx_length] at V2 ⊢
              go_wp2_with fail
              have hq1 : 1 ≤ qs.length := by have := congrArg List.length Hqs.out; simp only [List.length_map] at this; omega
              have hq2 : qs.length ≤ 17 := by have := congrArg List.length Hqs.out; simp only [List.length_map] at this; omega
              (go_at_call 11; ((with_reducible refine (polyAt_impl _ qs z _ (V2.out.alloc _) hq1 hq2 (Lib.hid fun _ _ => by rw [Hqs.out]; exact Hs2.out)).mono ?_); rw [Hqs.out, HT.out]; rintro e w5 ⟨c, d, rfl, hc, hd, hb5⟩))
              replace BB := Lib.hid (show Below w.heap.size w w5 from (BB.out.alloc BB.out.size _).trans (hb5.mono (by have := BB.out.size; simp; omega)))
              have Hcd := Lib.hid (show nc (c, d) = t0 from Prod.ext hc hd)
              clear hb5 hc hd
              go_wp2_with fail
              (go_at_call 116; ((with_reducible refine (quo_impl (a, b) (c, d) (Lib.hid (by rw [Hab.out, Hcd.out]; exact Hs3.out)) _).mono ?_); rw [Hab.out, Hcd.out]; rintro e w' ⟨p, q, m, rfl, hp, hq', rfl⟩))
              have Hpq := Lib.hid (show nc (p, q) = quoC v0 t0 from Prod.ext hp hq')
              replace BB := Lib.hid (show Below w.heap.size w (w5.drewN m) from below_drewN BB.out _)
              clear hp hq'
              go_wp2_with fail
              (go_at_call 41; ((with_reducible refine (allFinite_impl _ [(p, q)] _ (rd_c1 (w := w5.drewN m) (s := w5.heap.size) rfl (p, q)) (by simp)).mono ?_); rintro e w6 ⟨rfl, hb6⟩))
              rw [show allFinC [(p, q)] = true by simp only [allFinC, List.all_cons, List.all_nil, Bool.and_true]; rw [Hpq.out]; exact hq]
              replace BB := Lib.hid (show Below w.heap.size w w6 from BB.out.trans ((((Below.refl _ _).alloc (Nat.le_refl _) _).trans (hb6.mono (by simp))).mono BB.out.size))
              clear hb6
              go_wp2_with fail
              refine (minus_impl z (p, q) _).mono ?_
              rw [Hpq.out]
              rintro e w' ⟨g1, g2, m, rfl, hg1, hg2, rfl⟩
              have Hg := Lib.hid (show nc (g1, g2) = subC (nc z) (quoC v0 t0) from Prod.ext hg1 hg2)
              clear hg1 hg2
              go_wp2_with fail
              refine (finite_impl (g1, g2) _).mono ?_
              rw [Hg.out]
              generalize finiteX (subC (nc z) (quoC v0 t0)) = G at *
              rintro e w7 ⟨r1, r2, rfl, hr1, hr2, hb7⟩
              have Hr1 := Lib.hid hr1
              have Hr2 := Lib.hid hr2
              clear hr1 hr2
              go_wp2_with fail
              go_ret2
              exact ⟨_, _, rfl, Hr1.out, Hr2.out, (below_drewN BB.out _).trans (hb7.mono (show w.heap.size ≤ w6.heap.size from BB.out.size))⟩
  · have hH : stepF (rs.map nc) (nc z) = ((0, 0), false) := by unfold stepF; rw [if_neg hg]
    have H := Lib.hid hH
    rw [H.out]
    cases hroot : rootedF (rs.map nc)
    · go_enter Tryz.func101, Tryz.ntmps101
      go_wp2_with (go_at_call 27; go_must (refine (rooted_impl _ rs _ (Hv.out.alloc _) h1 h2).mono ?_); rintro e w' ⟨rfl, hb1⟩; obtain ⟨chb1, fhb1⟩ := bcell hb1; have zhb1 := hb1.size; (try simp only [World.size_alloc, World.size_setCell, World.size_drew] at zhb1); (try have lhb1 : w.heap.size < w'.heap.size := by omega))
      go_ret2
      exact ⟨_, _, rfl, n0, n0, by (repeat' (first | (with_reducible exact Below.refl _ _) | (with_reducible assumption) | (with_reducible refine Below.alloc ?_ ?_ _) | (with_reducible refine Below.setCell ?_ ?_ _) | (with_reducible refine Below.drew ?_) | (with_reducible refine Below.via (by assumption) ?_ ?_) | go_size))⟩
    · have hfin : finC (nc z) = false := by rw [hroot] at hg; simpa using hg
      go_enter Tryz.func101, Tryz.ntmps101
      go_wp2_with (first | (go_at_call 27; go_must (refine (rooted_impl _ rs _ (Hv.out.alloc _) h1 h2).mono ?_); rintro e w' ⟨rfl, hb1⟩; obtain ⟨chb1, fhb1⟩ := bcell hb1; have zhb1 := hb1.size; (try simp only [World.size_alloc, World.size_setCell, World.size_drew] at zhb1); (try have lhb1 : w.heap.size < w'.heap.size := by omega)) | (go_at_call 41; go_must (refine (allFinite_impl _ [z] _ (rd_c1 (by simp) z) (by simp)).mono ?_); rintro e w' ⟨rfl, hb2⟩; obtain ⟨chb2, fhb2⟩ := bcell hb2; have zhb2 := hb2.size; (try simp only [World.size_alloc, World.size_setCell, World.size_drew] at zhb2); (try have lhb2 : w.heap.size < w'.heap.size := by omega); rw [Ha.out]; rw [hfin]))
      go_ret2
      exact ⟨_, _, rfl, n0, n0, by (repeat' (first | (with_reducible exact Below.refl _ _) | (with_reducible assumption) | (with_reducible refine Below.alloc ?_ ?_ _) | (with_reducible refine Below.setCell ?_ ?_ _) | (with_reducible refine Below.drew ?_) | (with_reducible refine Below.via (by assumption) ?_ ?_) | go_size))⟩

end Go.Proofs.YtfnhddaofllniaaGreat

/- The values of a polynomial and of its slope, of the reference. Conditions: polynomials of 1 to 17 terms; what is narrowed fits float32. -/
namespace Go.Proofs.YtfnhddaofllniaaGreat
set_option linter.unusedSimpArgs false
set_option linter.unusedVariables false
open Go Go.RowKit

def valuesF (F : List C2) (z : C2) : (C2 × C2) × Bool :=
  if (polyAtF F z).2 = true then
    (if zeroC (polyAtF F z).1 = true then (((0, 0), (0, 0)), true)
    else if (slopePolyF F).2 = true then
      (if (polyAtF (slopePolyF F).1 z).2 = true then (((polyAtF F z).1, (polyAtF (slopePolyF F).1 z).1), true) else (((0, 0), (0, 0)), false))
    else (((0, 0), (0, 0)), false))
  else (((0, 0), (0, 0)), false)
def RetV (F : (C2 × C2) × Bool) (w : World) (e : Ending) (w' : World) : Prop :=
  ∃ a b c d, e = .returned (.tuple #[.complex .f32 a b, .complex .f32 c d, .complex .f32 0 0, .bool F.2]) ∧ nc (a, b) = F.1.1 ∧ nc (c, d) = F.1.2 ∧ Below w.heap.size w w'
theorem nc0 : nc (0, 0) = (0, 0) := by simp [nc, nrm0]

set_option maxRecDepth 100000 in
set_option maxHeartbeats 4000000 in
theorem values_spec (p : Nat) (v : Value) (rs : List C2) (z : C2) (w : World) (hp : w.cell? ⟨p, 0, none⟩ = some v) (hv : RdV w v (cx rs)) (h1 : 1 ≤ rs.length) (h2 : rs.length ≤ 17)
    (hs1 : safeN (rs.map nc) (nc z)) (hs2 : safeN (slopePolyF (rs.map nc)).1 (nc z)) :
    Calls Tryz.prog 112 #[.pointer (some ⟨p, 0, none⟩), .complex .f32 z.1 z.2, .bool false] w (RetV (valuesF (rs.map nc) (nc z)) w) := by
  have n0 := nc0
  have lp : p < w.heap.size := World.block_lt_of_cell? _ _ hp
  obtain ⟨ao, cap, rfl, _⟩ := hv.shape
  rw [cx_length] at hv hp
  have Hv := Lib.hid hv
  have Hs2 := Lib.hid hs2
  have HR := Lib.hid (show (slopePolyF (rs.map nc)).2 = true → 1 ≤ (slopePolyF (rs.map nc)).1.length from fun h => by
    unfold slopePolyF at h ⊢
    split
    · rename_i hh; rw [if_pos hh] at h; exact polyF_pos (slopeF_length _ (by simpa using h1)).1 h
    · rename_i hh; rw [if_neg hh] at h; cases h)
  have HR2 := Lib.hid (show (slopePolyF (rs.map nc)).1.length ≤ 17 from by
    unfold slopePolyF
    split
    · have h3 := polyF_le (F := slopeF (rs.map nc))
      have h4 := (slopeF_length (rs.map nc) (by simpa using h1)).2
      rw [List.length_map] at h4
      omega
    · simp)
  have HF := Lib.hid (show valuesF (rs.map nc) (nc z) = _ by unfold valuesF; rfl)
  rw [HF.out]
  have Pspec := Lib.hid (fun v w hv => polyAt_spec v rs z w hv h1 h2 (Lib.hid fun _ _ => hs1))
  have Sspec := Lib.hid (fun v w hv => slope_spec v rs w hv h1 h2)
  clear HF hv hs1 hs2
  generalize polyAtF (rs.map nc) (nc z) = V at *
  generalize slopePolyF (rs.map nc) = SP at *
  obtain ⟨v0, ok⟩ := V
  obtain ⟨S, ok2⟩ := SP
  dsimp only at *
  cases ok
  · rw [if_neg (by decide)]
    go_enter Tryz.func112, Tryz.ntmps112
    go_wp2_with fail
    (go_at_call 10; ((with_reducible refine (Pspec.out _ _ Hv.out).mono ?_); rintro e w3 ⟨a, b, rfl, ha, hb, hb3⟩))
    replace hp := (hb3.cell (p := ⟨p, 0, none⟩) lp).trans hp
    have V1 := Lib.hid (Hv.out.below hb3)
    have BB := Lib.hid hb3
    have Hab := Lib.hid (show nc (a, b) = v0 from Prod.ext ha hb)
    clear hb3 ha hb lp
    go_wp2_with fail
    (try simp only [Exit.inBlock, Exit.then]); refine bodyPost_ret (by simp [results, Tryz.results112, go_sem, *]; try rfl) rfl ?_
    exact ⟨_, _, _, _, rfl, n0, n0, BB.out⟩
  · rw [if_pos rfl]
    by_cases hz : zeroC v0 = true
    · rw [if_pos hz]
      go_enter Tryz.func112, Tryz.ntmps112
      go_wp2_with fail
      (go_at_call 10; ((with_reducible refine (Pspec.out _ _ Hv.out).mono ?_); rintro e w3 ⟨a, b, rfl, ha, hb, hb3⟩))
      replace hp := (hb3.cell (p := ⟨p, 0, none⟩) lp).trans hp
      have V1 := Lib.hid (Hv.out.below hb3)
      have BB := Lib.hid hb3
      have Hab := Lib.hid (show nc (a, b) = v0 from Prod.ext ha hb)
      clear hb3 ha hb lp
      have hz2 : zeroC (nc (a, b)) = true := by rw [Hab.out]; exact hz
      clear hz
      go_wp2_with fail
      (try simp only [Exit.inBlock, Exit.then]); refine bodyPost_ret (by simp [results, Tryz.results112, go_sem, *]; try rfl) rfl ?_
      exact ⟨_, _, _, _, rfl, n0, n0, BB.out⟩
    · rw [if_neg hz]
      have hz0 : zeroC v0 = false := by simpa using hz
      clear hz
      cases ok2
      · rw [if_neg (by decide)]
        go_enter Tryz.func112, Tryz.ntmps112
        go_wp2_with fail
        (go_at_call 10; ((with_reducible refine (Pspec.out _ _ Hv.out).mono ?_); rintro e w3 ⟨a, b, rfl, ha, hb, hb3⟩))
        replace hp := (hb3.cell (p := ⟨p, 0, none⟩) lp).trans hp
        have V1 := Lib.hid (Hv.out.below hb3)
        have BB := Lib.hid hb3
        have Hab := Lib.hid (show nc (a, b) = v0 from Prod.ext ha hb)
        clear hb3 ha hb lp
        have hz2 : zeroC (nc (a, b)) = false := by rw [Hab.out]; exact hz0
        go_wp2_with fail
        (go_at_call 120; ((with_reducible refine (Sspec.out _ _ V1.out).mono ?_); rintro e w4 ⟨v2, qs, rfl, hqs, ho2, hb4⟩))
        replace BB := Lib.hid (show Below w.heap.size w w4 from BB.out.trans (hb4.mono BB.out.size))
        have Hqs := Lib.hid hqs
        have V2 := Lib.hid ho2.rd
        clear hb4 hqs ho2 V1
        obtain ⟨ao2, cap2, rfl, _⟩ := V2.out.shape
        rw [cx_length] at V2 ⊢
        go_wp2_with fail
        (try simp only [Exit.inBlock, Exit.then]); refine bodyPost_ret (by simp [results, Tryz.results112, go_sem, *]; try rfl) rfl ?_
        exact ⟨_, _, _, _, rfl, n0, n0, BB.out.alloc BB.out.size _⟩
      · rw [if_pos rfl]
        have hS1 : 1 ≤ S.length := HR.out rfl
        have hS2 : S.length ≤ 17 := HR2.out
        generalize hT : polyAtF S (nc z) = T at *
        obtain ⟨t0, ok3⟩ := T
        have HT := Lib.hid hT
        clear hT HR HR2
        dsimp only at *
        cases ok3
        · rw [if_neg (by decide)]
          go_enter Tryz.func112, Tryz.ntmps112
          go_wp2_with fail
          (go_at_call 10; ((with_reducible refine (Pspec.out _ _ Hv.out).mono ?_); rintro e w3 ⟨a, b, rfl, ha, hb, hb3⟩))
          replace hp := (hb3.cell (p := ⟨p, 0, none⟩) lp).trans hp
          have V1 := Lib.hid (Hv.out.below hb3)
          have BB := Lib.hid hb3
          have Hab := Lib.hid (show nc (a, b) = v0 from Prod.ext ha hb)
          clear hb3 ha hb lp
          have hz2 : zeroC (nc (a, b)) = false := by rw [Hab.out]; exact hz0
          go_wp2_with fail
          (go_at_call 120; ((with_reducible refine (Sspec.out _ _ V1.out).mono ?_); rintro e w4 ⟨v2, qs, rfl, hqs, ho2, hb4⟩))
          replace BB := Lib.hid (show Below w.heap.size w w4 from BB.out.trans (hb4.mono BB.out.size))
          have Hqs := Lib.hid hqs
          have V2 := Lib.hid ho2.rd
          clear hb4 hqs ho2 V1
          obtain ⟨ao2, cap2, rfl, _⟩ := V2.out.shape
          rw [cx_length] at V2 ⊢
          go_wp2_with fail
          have hq1 : 1 ≤ qs.length := by have := congrArg List.length Hqs.out; simp only [List.length_map] at this; omega
          have hq2 : qs.length ≤ 17 := by have := congrArg List.length Hqs.out; simp only [List.length_map] at this; omega
          (go_at_call 10; ((with_reducible refine (polyAt_spec _ qs z _ (V2.out.alloc _) hq1 hq2 (Lib.hid fun _ _ => by rw [Hqs.out]; exact Hs2.out)).mono ?_); rw [Hqs.out, HT.out]; rintro e w5 ⟨c, d, rfl, hc, hd, hb5⟩))
          replace BB := Lib.hid (show Below w.heap.size w w5 from (BB.out.alloc BB.out.size _).trans (hb5.mono (by have := BB.out.size; simp; omega)))
          have Hcd := Lib.hid (show nc (c, d) = t0 from Prod.ext hc hd)
          clear hb5 hc hd
          go_wp2_with fail
          (try simp only [Exit.inBlock, Exit.then]); refine bodyPost_ret (by simp [results, Tryz.results112, go_sem, *]; try rfl) rfl ?_
          exact ⟨_, _, _, _, rfl, n0, n0, BB.out⟩
        · rw [if_pos rfl]
          go_enter Tryz.func112, Tryz.ntmps112
          go_wp2_with fail
          (go_at_call 10; ((with_reducible refine (Pspec.out _ _ Hv.out).mono ?_); rintro e w3 ⟨a, b, rfl, ha, hb, hb3⟩))
          replace hp := (hb3.cell (p := ⟨p, 0, none⟩) lp).trans hp
          have V1 := Lib.hid (Hv.out.below hb3)
          have BB := Lib.hid hb3
          have Hab := Lib.hid (show nc (a, b) = v0 from Prod.ext ha hb)
          clear hb3 ha hb lp
          have hz2 : zeroC (nc (a, b)) = false := by rw [Hab.out]; exact hz0
          go_wp2_with fail
          (go_at_call 120; ((with_reducible refine (Sspec.out _ _ V1.out).mono ?_); rintro e w4 ⟨v2, qs, rfl, hqs, ho2, hb4⟩))
          replace BB := Lib.hid (show Below w.heap.size w w4 from BB.out.trans (hb4.mono BB.out.size))
          have Hqs := Lib.hid hqs
          have V2 := Lib.hid ho2.rd
          clear hb4 hqs ho2 V1
          obtain ⟨ao2, cap2, rfl, _⟩ := V2.out.shape
          rw [cx_length] at V2 ⊢
          go_wp2_with fail
          have hq1 : 1 ≤ qs.length := by have := congrArg List.length Hqs.out; simp only [List.length_map] at this; omega
          have hq2 : qs.length ≤ 17 := by have := congrArg List.length Hqs.out; simp only [List.length_map] at this; omega
          (go_at_call 10; ((with_reducible refine (polyAt_spec _ qs z _ (V2.out.alloc _) hq1 hq2 (Lib.hid fun _ _ => by rw [Hqs.out]; exact Hs2.out)).mono ?_); rw [Hqs.out, HT.out]; rintro e w5 ⟨c, d, rfl, hc, hd, hb5⟩))
          replace BB := Lib.hid (show Below w.heap.size w w5 from (BB.out.alloc BB.out.size _).trans (hb5.mono (by have := BB.out.size; simp; omega)))
          have Hcd := Lib.hid (show nc (c, d) = t0 from Prod.ext hc hd)
          clear hb5 hc hd
          go_wp2_with fail
          (try simp only [Exit.inBlock, Exit.then]); refine bodyPost_ret (by simp [results, Tryz.results112, go_sem, *]; try rfl) rfl ?_
          exact ⟨_, _, _, _, rfl, Hab.out, Hcd.out, BB.out⟩

end Go.Proofs.YtfnhddaofllniaaGreat
