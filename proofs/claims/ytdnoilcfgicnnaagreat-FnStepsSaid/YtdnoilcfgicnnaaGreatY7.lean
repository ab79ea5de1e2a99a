/- One Newton step, of the reference. Conditions: a polynomial with roots, a finite number; what is narrowed fits float32. -/
import Derived.Test.YtdnoilcfgicnnaaGreatY6
import Derived.Lib.SliceRun
import Derived.Laws.OwnMore
namespace Go.Proofs.YtdnoilcfgicnnaaGreat
set_option linter.unusedSimpArgs false
set_option linter.unusedVariables false
open Go Go.RowKit

set_option maxRecDepth 100000 in
set_option maxHeartbeats 4000000 in
theorem step_spec (p : Nat) (v : Value) (rs : List C2) (z : C2) (w : World) (hp : w.cell? ⟨p, 0, none⟩ = some v) (hv : RdV w v (cx rs)) (h1 : 1 ≤ rs.length) (h2 : rs.length ≤ 17)
    (hroot : rootedF (rs.map nc) = true) (hfin : finC (nc z) = true) (Hs : RowKit.Hid (safeStep (rs.map nc) (nc z))) :
    Calls Tryz.prog 69 #[.pointer (some ⟨p, 0, none⟩), .complex .f32 z.1 z.2] w (RetXB (stepF (rs.map nc) (nc z)) w) := by
  have n0 := nrm0
  obtain ⟨hs1, hs2, hs3⟩ : safeN (rs.map nc) (nc z) ∧ safeN (slopePolyF (rs.map nc)).1 (nc z) ∧ quoFit (polyAtF (rs.map nc) (nc z)).1 (polyAtF (slopePolyF (rs.map nc)).1 (nc z)).1 := Hs.out
  have Hs3 := Lib.hid hs3
  have Vspec := Lib.hid (values_spec p v rs z w hp hv h1 h2 hs1 hs2)
  have HF := Lib.hid (show stepF (rs.map nc) (nc z) = _ by unfold stepF; rw [if_pos (by rw [hroot, hfin]; rfl)])
  rw [HF.out]
  have HV := Lib.hid (show valuesF (rs.map nc) (nc z) = _ by unfold valuesF; rfl)
  rw [HV.out] at Vspec
  clear HF HV hp hv hs1 hs2 hs3 Hs hroot hfin
  generalize polyAtF (rs.map nc) (nc z) = V at *
  generalize slopePolyF (rs.map nc) = SP at *
  obtain ⟨v0, ok⟩ := V
  obtain ⟨S, ok2⟩ := SP
  dsimp only at *
  generalize polyAtF S (nc z) = T at *
  obtain ⟨t0, ok3⟩ := T
  dsimp only at *
  cases ok
  · rw [if_neg (by decide)] at Vspec ⊢
    go_enter Tryz.func69, Tryz.ntmps69
    go_wp2_with fail
    (go_at_call 80; ((with_reducible refine Vspec.out.mono ?_); rintro e w1 ⟨a, b, c, d, rfl, hab, hcd, hb1⟩))
    have Hab := Lib.hid hab
    have Hcd := Lib.hid hcd
    have BB := Lib.hid hb1
    clear hab hcd hb1
    dsimp only at Hab Hcd ⊢
    go_wp2_with fail
    go_ret2
    exact ⟨_, _, rfl, n0, n0, BB.out⟩
  · rw [if_pos rfl] at Vspec ⊢
    by_cases hz : zeroC v0 = true
    · rw [if_pos hz] at Vspec ⊢
      clear hz
      go_enter Tryz.func69, Tryz.ntmps69
      go_wp2_with fail
      (go_at_call 80; ((with_reducible refine Vspec.out.mono ?_); rintro e w1 ⟨a, b, c, d, rfl, hab, hcd, hb1⟩))
      have Hab := Lib.hid hab
      have Hcd := Lib.hid hcd
      have BB := Lib.hid hb1
      clear hab hcd hb1
      dsimp only at Hab Hcd ⊢
      have hz2 : zeroC (nc (a, b)) = true := by rw [Hab.out]; decide +kernel
      go_wp2_with fail
      go_ret2
      exact ⟨_, _, rfl, rfl, rfl, BB.out⟩
    · rw [if_neg hz] at Vspec ⊢
      have hz0 : zeroC v0 = false := by simpa using hz
      clear hz
      cases ok2
      · rw [if_neg (by decide)] at Vspec ⊢
        go_enter Tryz.func69, Tryz.ntmps69
        go_wp2_with fail
        (go_at_call 80; ((with_reducible refine Vspec.out.mono ?_); rintro e w1 ⟨a, b, c, d, rfl, hab, hcd, hb1⟩))
        have Hab := Lib.hid hab
        have Hcd := Lib.hid hcd
        have BB := Lib.hid hb1
        clear hab hcd hb1
        dsimp only at Hab Hcd ⊢
        go_wp2_with fail
        go_ret2
        exact ⟨_, _, rfl, n0, n0, BB.out⟩
      · rw [if_pos rfl] at Vspec ⊢
        cases ok3
        · rw [if_neg (by decide)] at Vspec
          rw [Bool.false_and, if_neg (by decide)]
          go_enter Tryz.func69, Tryz.ntmps69
          go_wp2_with fail
          (go_at_call 80; ((with_reducible refine Vspec.out.mono ?_); rintro e w1 ⟨a, b, c, d, rfl, hab, hcd, hb1⟩))
          have Hab := Lib.hid hab
          have Hcd := Lib.hid hcd
          have BB := Lib.hid hb1
          clear hab hcd hb1
          dsimp only at Hab Hcd ⊢
          go_wp2_with fail
          go_ret2
          exact ⟨_, _, rfl, n0, n0, BB.out⟩
        · rw [if_pos rfl] at Vspec
          rw [Bool.true_and]
          cases hq : finC (quoC v0 t0)
          · rw [if_neg (by decide)]
            go_enter Tryz.func69, Tryz.ntmps69
            go_wp2_with fail
            (go_at_call 80; ((with_reducible refine Vspec.out.mono ?_); rintro e w1 ⟨a, b, c, d, rfl, hab, hcd, hb1⟩))
            have Hab := Lib.hid hab
            have Hcd := Lib.hid hcd
            have BB := Lib.hid hb1
            clear hab hcd hb1
            dsimp only at Hab Hcd ⊢
            have hz2 : zeroC (nc (a, b)) = false := by rw [Hab.out]; exact hz0
            go_wp2_with fail
            (go_at_call 81; ((with_reducible refine (quo_spec (a, b) (c, d) (Lib.hid (by rw [Hab.out, Hcd.out]; exact Hs3.out)) _).mono ?_); rw [Hab.out, Hcd.out]; rintro e w' ⟨x, y, m, rfl, hx, hy, rfl⟩))
            have Hxy := Lib.hid (show nc (x, y) = quoC v0 t0 from Prod.ext hx hy)
            clear hx hy
            go_wp2_with fail
            (go_at_call 54; ((with_reducible refine (cfin1_spec (x, y) _).mono ?_); rw [Hxy.out, hq]; rintro e w' ⟨m2, rfl, rfl⟩))
            go_wp2_with fail
            go_ret2
            exact ⟨_, _, rfl, n0, n0, below_drewN BB.out _⟩
          · rw [if_pos rfl]
            go_enter Tryz.func69, Tryz.ntmps69
            go_wp2_with fail
            (go_at_call 80; ((with_reducible refine Vspec.out.mono ?_); rintro e w1 ⟨a, b, c, d, rfl, hab, hcd, hb1⟩))
            have Hab := Lib.hid hab
            have Hcd := Lib.hid hcd
            have BB := Lib.hid hb1
            clear hab hcd hb1
            dsimp only at Hab Hcd ⊢
            have hz2 : zeroC (nc (a, b)) = false := by rw [Hab.out]; exact hz0
            go_wp2_with fail
            (go_at_call 81; ((with_reducible refine (quo_spec (a, b) (c, d) (Lib.hid (by rw [Hab.out, Hcd.out]; exact Hs3.out)) _).mono ?_); rw [Hab.out, Hcd.out]; rintro e w' ⟨x, y, m, rfl, hx, hy, rfl⟩))
            have Hxy := Lib.hid (show nc (x, y) = quoC v0 t0 from Prod.ext hx hy)
            clear hx hy
            go_wp2_with fail
            (go_at_call 54; ((with_reducible refine (cfin1_spec (x, y) _).mono ?_); rw [Hxy.out, hq]; rintro e w' ⟨m2, rfl, rfl⟩))
            go_wp2_with (with_reducible refine wpList_cadd rfl .sub (.inr rfl) _ _ _ _ rfl _ _ _ _ rfl rfl ?_; intro g1 g2 m3 hg1 hg2)
            have Hg := Lib.hid (show nc (g1, g2) = subC (nc z) (quoC v0 t0) by
              have e1 : nrm .f32 x = (quoC v0 t0).1 := congrArg Prod.fst Hxy.out
              have e2 : nrm .f32 y = (quoC v0 t0).2 := congrArg Prod.snd Hxy.out
              unfold subC
              rw [← e1, ← e2]
              exact Prod.ext hg1 hg2)
            clear hg1 hg2
            refine (number_spec (g1, g2) _).mono ?_
            rw [Hg.out]
            generalize finiteX (subC (nc z) (quoC v0 t0)) = G at *
            rintro e w7 ⟨r1, r2, rfl, hr1, hr2, hb7⟩
            have Hr1 := Lib.hid hr1
            have Hr2 := Lib.hid hr2
            clear hr1 hr2
            go_wp2_with fail
            go_ret2
            exact ⟨_, _, rfl, Hr1.out, Hr2.out, (below_drewN BB.out _).trans (hb7.mono (show w.heap.size ≤ w1.heap.size from BB.out.size))⟩

end Go.Proofs.YtdnoilcfgicnnaaGreat

/- Newton steps one behind the other, of the reference. Conditions: a polynomial with roots, a finite number; what is narrowed fits float32. -/
namespace Go.Proofs.YtdnoilcfgicnnaaGreat
set_option linter.unusedSimpArgs false
set_option linter.unusedVariables false
open Go Go.RowKit

def polishF (F : List C2) : Nat → C2 → C2 × Bool
  | 0, z => (z, true)
  | n + 1, z => if (stepF F z).2 = true then polishF F n (stepF F z).1 else ((0, 0), false)
def safePolish (F : List C2) : Nat → C2 → Prop
  | 0, _ => True
  | n + 1, z => safeStep F z ∧ ((stepF F z).2 = true → safePolish F n (stepF F z).1)
theorem finiteX_fin {z : C2} (h : (finiteX z).2 = true) : finC (finiteX z).1 = true := by
  unfold finiteX at h ⊢
  split
  · assumption
  · rename_i hh; rw [if_neg hh] at h; cases h
theorem stepF_fin {F : List C2} {z : C2} (h : (stepF F z).2 = true) : finC (stepF F z).1 = true := by
  unfold stepF at h ⊢
  split
  · rename_i h1
    rw [if_pos h1] at h
    split
    · rename_i h2
      rw [if_pos h2] at h
      split
      · simp only [Bool.and_eq_true] at h1; exact h1.2
      · rename_i h3
        rw [if_neg h3] at h
        split
        · rename_i h4
          rw [if_pos h4] at h
          split
          · rename_i h5; rw [if_pos h5] at h; exact finiteX_fin h
          · rename_i h5; rw [if_neg h5] at h; cases h
        · rename_i h4; rw [if_neg h4] at h; cases h
    · rename_i h2; rw [if_neg h2] at h; cases h
  · rename_i h1; rw [if_neg h1] at h; cases h

set_option maxRecDepth 100000 in
set_option maxHeartbeats 1000000 in
theorem polish_spec (p : Nat) (v : Value) (rs : List C2) (z : C2) (n : Nat) (w : World) (hp : w.cell? ⟨p, 0, none⟩ = some v) (hv : RdV w v (cx rs)) (h1 : 1 ≤ rs.length) (h2 : rs.length ≤ 17)
    (hroot : rootedF (rs.map nc) = true) (hfin : finC (nc z) = true) (hn : n ≤ 64) (Hs : RowKit.Hid (safePolish (rs.map nc) n (nc z))) :
    Calls Tryz.prog 35 #[.pointer (some ⟨p, 0, none⟩), .complex .f32 z.1 z.2, .int .i64 n] w (RetXB (polishF (rs.map nc) n (nc z)) w) := by
  have n0 := nrm0
  have lp : p < w.heap.size := World.block_lt_of_cell? _ _ hp
  have ST := Lib.hid (fun w1 z1 (hb : Below w.heap.size w w1) hf Hs => step_spec p v rs z1 w1 ((hb.cell (p := ⟨p, 0, none⟩) lp).trans hp) (hv.below hb) h1 h2 hroot hf Hs)
  clear hp hv h1 h2 hroot lp
  generalize rs.map nc = F at *
  go_enter Tryz.func35, Tryz.ntmps35
  go_wp2
  go_loopw [1, 2] (fun zv i wr => ∃ (k : Nat) (x y : Nat), k ≤ n ∧ i = .int .i64 k ∧ zv = .complex .f32 x y ∧ Below w.heap.size w wr ∧ polishF F k (nc (x, y)) = polishF F n (nc z) ∧ safePolish F k (nc (x, y)) ∧ finC (nc (x, y)) = true) (fun _ i _ => (intOf i).toNat)
  case atStart => exact ⟨n, z.1, z.2, Nat.le_refl _, rfl, rfl, Below.refl _ _, rfl, Hs.out, hfin⟩
  case round =>
    obtain ⟨k, x, y, hk, rfl, rfl, hbel, hpol, hsafe, hf⟩ := hrel
    by_cases h0 : k = 0
    · subst h0
      have Hpol := Lib.hid (show polishF F n (nc z) = (nc (x, y), true) from hpol.symm)
      clear hpol hsafe
      go_wp2
      go_ret2
      rw [Hpol.out]
      exact ⟨_, _, rfl, rfl, rfl, hbel⟩
    · obtain ⟨j, rfl⟩ : ∃ j, k = j + 1 := ⟨k - 1, by omega⟩
      have C := Lib.hid (ST.out wr (x, y) hbel hf (Lib.hid hsafe.1))
      have Hpol := Lib.hid (show polishF F n (nc z) = if (stepF F (nc (x, y))).2 = true then polishF F j (stepF F (nc (x, y))).1 else ((0, 0), false) from hpol.symm)
      have Hsafe := Lib.hid hsafe.2
      have Hfin := Lib.hid (stepF_fin (F := F) (z := nc (x, y)))
      have Hb := Lib.hid hbel
      have j0 : (0 : Int) < (j : Int) + 1 := by omega
      have j1 : (0 : Int) ≤ (j : Int) := by omega
      clear hpol hsafe hbel hf
      generalize stepF F (nc (x, y)) = T at *
      obtain ⟨t0, ok⟩ := T
      dsimp only at *
      go_wp2_with fail
      refine C.out.mono ?_
      rintro e w1 ⟨a, b, rfl, ha, hb, hb1⟩
      have Hab := Lib.hid (show nc (a, b) = t0 from Prod.ext ha hb)
      replace Hb := Lib.hid (Hb.out.trans (hb1.mono Hb.out.size))
      clear ha hb hb1 C
      cases ok
      · go_wp2_with fail
        go_ret2
        rw [Hpol.out, if_neg (by decide)]
        exact ⟨_, _, rfl, n0, n0, Hb.out⟩
      · go_wp2_with fail
        go_roundw
        case rel => exact ⟨j, a, b, by omega, by go_num, rfl, Hb.out, by rw [Hab.out, Hpol.out]; simp, by rw [Hab.out]; first | exact Hsafe.out rfl | exact Hsafe.out trivial, by rw [Hab.out]; first | exact Hfin.out rfl | exact Hfin.out trivial⟩
        case measure => first | (simp [intOf]; done) | (simp [intOf]; omega)

end Go.Proofs.YtdnoilcfgicnnaaGreat

/- Ranges, lists of roots, and Newton steps one behind the other, of the program. Conditions: those of the statements. -/
namespace Go.Proofs.YtdnoilcfgicnnaaGreat
set_option linter.unusedSimpArgs false
set_option linter.unusedVariables false
open Go Go.RowKit

def inB (lo n hi : Int) : Bool := decide (lo ≤ n ∧ n ≤ hi)
theorem in_spec (n lo hi : Int) (w : World) : Calls Tryz.prog 68 #[.int .i64 n, .int .i64 lo, .int .i64 hi] w fun e w' => e = .returned (.bool (inB lo n hi)) ∧ w = w' := by
  by_cases h1 : lo ≤ n
  · by_cases h2 : n ≤ hi
    · have hd : inB lo n hi = true := by simp [inB, h1, h2]
      rw [hd]; clear hd
      go_enter Tryz.func68, Tryz.ntmps68
      go_wp2
      go_ret
      exact ⟨rfl, rfl⟩
    · have hd : inB lo n hi = false := by simp [inB, h2]
      rw [hd]; clear hd
      go_enter Tryz.func68, Tryz.ntmps68
      go_wp2
      go_ret
      exact ⟨rfl, rfl⟩
  · have hd : inB lo n hi = false := by simp [inB, h1]
    rw [hd]; clear hd
    go_enter Tryz.func68, Tryz.ntmps68
    go_wp2
    go_ret
    exact ⟨rfl, rfl⟩

theorem within_impl (n lo hi : Int) (w : World) : Calls Tryz.prog 32 #[.int .i64 n, .int .i64 lo, .int .i64 hi] w fun e w' => e = .returned (.bool (inB lo n hi)) ∧ w = w' := by
  by_cases h1 : lo ≤ n
  · by_cases h2 : n ≤ hi
    · have hd : inB lo n hi = true := by simp [inB, h1, h2]
      rw [hd]; clear hd
      go_enter Tryz.func32, Tryz.ntmps32
      go_wp2
      go_ret
      exact ⟨rfl, rfl⟩
    · have hd : inB lo n hi = false := by simp [inB, h2]
      rw [hd]; clear hd
      go_enter Tryz.func32, Tryz.ntmps32
      go_wp2
      go_ret
      exact ⟨rfl, rfl⟩
  · have hd : inB lo n hi = false := by simp [inB, h1]
    rw [hd]; clear hd
    go_enter Tryz.func32, Tryz.ntmps32
    go_wp2
    go_ret
    exact ⟨rfl, rfl⟩



set_option maxRecDepth 100000 in
theorem areRoots_impl (v : Value) (rs : List C2) (w : World) (hv : RdV w v (cx rs)) (h1 : 1 ≤ rs.length) (h2 : rs.length ≤ 16) :
    Calls Tryz.prog 10 #[v] w (RB (allFinC rs) w) := by
  obtain ⟨ao, cap, rfl, _⟩ := hv.shape
  rw [cx_length] at hv ⊢
  have Hv := Lib.hid hv
  clear hv
  have j1 : (1 : Int) ≤ (rs.length : Int) := by omega
  have j2 : (rs.length : Int) ≤ 16 := by omega
  go_enter Tryz.func10, Tryz.ntmps10
  go_wp2_with fail
  (go_at_call 31; ((with_reducible refine (allFinite_impl _ rs _ Hv.out (by omega)).mono ?_); rintro e w1 ⟨rfl, hb1⟩))
  go_wp2_with fail
  go_ret
  exact ⟨by simp, hb1⟩
set_option maxRecDepth 100000 in
theorem list_spec (v : Value) (rs : List C2) (w : World) (hv : RdV w v (cx rs)) (h1 : 1 ≤ rs.length) (h2 : rs.length ≤ 16) :
    Calls Tryz.prog 29 #[v] w (RetB (allFinC rs) w) := by
  obtain ⟨ao, cap, rfl, _⟩ := hv.shape
  rw [cx_length] at hv ⊢
  have Hv := Lib.hid hv
  clear hv
  have j1 : (1 : Int) ≤ (rs.length : Int) := by omega
  have j2 : (rs.length : Int) ≤ 16 := by omega
  go_enter Tryz.func29, Tryz.ntmps29
  go_wp2_with fail
  (go_at_call 24; ((with_reducible refine (cfinite_spec _ rs _ Hv.out (by omega)).mono ?_); rintro e w1 ⟨m, rfl, rfl⟩))
  go_wp2_with fail
  go_ret
  exact ⟨_, by simp, rfl⟩

set_option maxRecDepth 100000 in
set_option maxHeartbeats 1000000 in
theorem polish_impl (v : Value) (rs : List C2) (z : C2) (n : Nat) (w : World) (hv : RdV w v (cx rs)) (h1 : 1 ≤ rs.length) (h2 : rs.length ≤ 17)
    (hroot : rootedF (rs.map nc) = true) (hfin : finC (nc z) = true) (hn : n ≤ 64) (Hs : RowKit.Hid (safePolish (rs.map nc) n (nc z))) :
    Calls Tryz.prog 11 #[.agg #[v], .complex .f32 z.1 z.2, .int .i64 n] w (RetXB (polishF (rs.map nc) n (nc z)) w) := by
  have n0 := nrm0
  obtain ⟨ao, cap, rfl, _⟩ := hv.shape
  rw [cx_length] at hv ⊢
  have Hv := Lib.hid hv
  clear hv
  have Ha := Lib.hid (show allFinC [z] = true by simp [allFinC, hfin])
  have X0 := Lib.hid (World.cell?_alloc_new w #[.slice ao rs.length cap] 28 0 : (w.alloc (.cells #[.slice ao rs.length cap] 28)).cell? ⟨w.heap.size, 0, none⟩ = some (.slice ao rs.length cap))
  have Rimpl := Lib.hid (fun v w hv => rooted_impl v rs w hv h1 h2)
  have hin : inB 0 n 64 = true := by simp [inB]; omega
  have Hin := Lib.hid hin
  rw [hroot] at Rimpl
  clear hin
  go_enter Tryz.func11, Tryz.ntmps11
  go_wp2_with fail
  (go_at_call 27; ((with_reducible refine (Rimpl.out _ _ (Hv.out.alloc _)).mono ?_); rintro e w1 ⟨rfl, hb1⟩))
  have xp : w1.cell? ⟨w.heap.size, 0, none⟩ = some (.slice ao rs.length cap) := (hb1.cell (p := ⟨w.heap.size, 0, none⟩) (by simp)).trans X0.out
  have lp : w.heap.size < w1.heap.size := by have := hb1.size; simp only [World.size_alloc] at this; omega
  have BB := Lib.hid (show Below w.heap.size w w1 from ((Below.refl _ _).alloc (Nat.le_refl _) _).trans (hb1.mono (by simp)))
  have V1 := Lib.hid ((Hv.out.alloc _).below hb1)
  clear hb1
  go_wp2_with fail
  (go_at_call 31; ((with_reducible refine (allFinite_impl _ [z] _ (rd_c1 rfl z) (by simp)).mono ?_); rintro e w2 ⟨rfl, hb2⟩))
  rw [Ha.out]
  have lp2 : w.heap.size ≤ w1.heap.size := by omega
  replace BB := Lib.hid (show Below w.heap.size w w2 from (BB.out.alloc BB.out.size _).trans (hb2.mono (by simp; omega)))
  replace xp := ((hb2.cell (p := ⟨w.heap.size, 0, none⟩) (by simp; omega)).trans (((Below.refl _ _).alloc (Nat.le_refl _) _).cell (p := ⟨w.heap.size, 0, none⟩) lp)).trans xp
  replace V1 := Lib.hid ((V1.out.alloc _).below hb2)
  replace lp : w.heap.size < w2.heap.size := World.block_lt_of_cell? _ _ xp
  clear hb2 lp2
  have ST := Lib.hid (fun w3 z1 (hb : Below w2.heap.size w2 w3) Hs => step_impl (.slice ao rs.length cap) rs z1 w3 (V1.out.below hb) h1 h2 Hs)
  clear h1 h2 hroot
  generalize rs.map nc = F at *
  go_wp2_with (go_at_call 32; go_must (refine (within_impl _ _ _ _).mono ?_); rw [Hin.out]; rintro e w' ⟨rfl, rfl⟩)
  have B2 := Below.refl w2.heap.size w2
  go_loopw [1, 24] (fun zv i wr => ∃ (k : Nat) (x y : Nat), k ≤ n ∧ i = .int .i64 k ∧ zv = .complex .f32 x y ∧ Below w2.heap.size w2 wr ∧ polishF F (n - k) (nc (x, y)) = polishF F n (nc z) ∧ safePolish F (n - k) (nc (x, y))) (fun _ i _ => n - (intOf i).toNat)
  case atStart => exact ⟨0, z.1, z.2, Nat.zero_le _, rfl, rfl, Below.refl _ _, rfl, Hs.out⟩
  case round =>
    obtain ⟨k, x, y, hk, rfl, rfl, hbel, hpol, hsafe⟩ := hrel
    have xq := (hbel.cell (p := ⟨w.heap.size, 0, none⟩) lp).trans xp
    by_cases h0 : k < n
    · obtain ⟨j, hj⟩ : ∃ j, n - k = j + 1 := ⟨n - k - 1, by omega⟩
      rw [hj] at hpol hsafe
      have Hj := Lib.hid hj
      have C := Lib.hid (ST.out wr (x, y) hbel (Lib.hid hsafe.1))
      have Hpol := Lib.hid (show polishF F n (nc z) = if (stepF F (nc (x, y))).2 = true then polishF F j (stepF F (nc (x, y))).1 else ((0, 0), false) from hpol.symm)
      have Hsafe := Lib.hid hsafe.2
      have Hb := Lib.hid hbel
      have j1 : (k : Int) < (n : Int) := by omega
      clear hpol hsafe hbel hj
      generalize stepF F (nc (x, y)) = T at *
      obtain ⟨t0, ok⟩ := T
      dsimp only at *
      go_wp2_with fail
      refine C.out.mono ?_
      rintro e w3 ⟨a, b, rfl, ha, hb, hb1⟩
      have Hab := Lib.hid (show nc (a, b) = t0 from Prod.ext ha hb)
      replace Hb := Lib.hid (Hb.out.trans (hb1.mono Hb.out.size))
      clear ha hb hb1 C
      cases ok
      · go_wp2_with fail
        go_ret2
        rw [Hpol.out, if_neg (by decide)]
        exact ⟨_, _, rfl, n0, n0, BB.out.trans (Hb.out.mono BB.out.size)⟩
      · go_wp2_with fail
        go_roundw
        case rel => exact ⟨k + 1, a, b, by omega, by go_num, rfl, Hb.out, by rw [Hab.out, Hpol.out, show n - (k + 1) = j by have := Hj.out; omega]; simp, by rw [Hab.out, show n - (k + 1) = j by have := Hj.out; omega]; first | exact Hsafe.out rfl | exact Hsafe.out trivial⟩
        case measure => first | (simp [intOf]; done) | (simp [intOf]; omega)
    · obtain rfl : k = n := by omega
      rw [Nat.sub_self] at hpol
      have Hpol := Lib.hid (show polishF F k (nc z) = (nc (x, y), true) from hpol.symm)
      clear hpol hsafe
      go_wp2
      go_ret2
      rw [Hpol.out]
      exact ⟨_, _, rfl, rfl, rfl, BB.out.trans (hbel.mono BB.out.size)⟩

end Go.Proofs.YtdnoilcfgicnnaaGreat

/- Clones, opposites, new lists, and a polynomial that is not 0. Conditions: as told. -/
namespace Go.Proofs.YtdnoilcfgicnnaaGreat
open Go Go.RowKit
set_option linter.unusedSimpArgs false
set_option linter.unusedVariables false

set_option maxRecDepth 100000 in
theorem clone_impl (v : Value) (ls : List C2) (w : World) (hv : RdV w v (cx ls)) (h1 : 1 ≤ ls.length) (h2 : ls.length ≤ 16) :
    Calls Tryz.prog 91 #[v] w fun e w' => ∃ v', e = .returned v' ∧ OwV 36 w' w.heap.size v' (cx ls) ∧ Below w.heap.size w w' := by
  have hn : cx ls ≠ [] := by rw [← List.length_pos_iff, cx_length]; exact h1
  obtain ⟨b, off, cap, rfl, hb, _, hc⟩ := hv.open hn
  rw [cx_length] at hv ⊢
  have Hv := Lib.hid hv
  clear hv hc
  have e1 := fun w1 : World => Lib.run_eql_slice_nil (P := Tryz.prog) w1 25 36 (some ⟨b, off, none⟩) ls.length cap 0 0 Tryz.underlying25
  go_enter Tryz.func91, Tryz.ntmps91
  go_wp2_with (at_builtin; go_must (refine wpList_cloneV (.complex .f32 0 0) 8 infoC rfl (cx_one ls) (by decide) rfl _ _ rfl Tryz.underlying25 Hv.out hn (by simp; omega) rfl rfl rfl ?_); intro g1 cap1 w1 hg1 ho1 hb1; rw [cx_length] at ho1 ⊢)
  go_ret
  exact ⟨_, rfl, ho1, hb1⟩
section
variable {ops : Array Oper} {rest : List Oper} {o : Oper} {a : Act} {Q : Exit → Act → World → Prop}
theorem wpList_makeV {e : TypeId} (w : World) (z : Value) (bytes : Nat) (hinfo : (Tryz.prog.info? e).map (fun i => (i.zero, i.size, i.bytes)) = some (some z, 1, bytes)) (hz : z.cells = #[z]) (hby : bytes ≤ 24)
    (hg : o.guard = none) (l c : Operand) (t : TypeId) (hop : o.op = Op.makeSlice t l c) (ht : Tryz.prog.underlying t = some (.slice e))
    (L C : Int) (n : Nat) (hl : a.eval l = .int .i64 L) (hc : a.eval c = .int .i64 C) (hL : L = (n : Int)) (hC : C = (n : Int)) (hn : n ≤ 1099511627776)
    (hK : ∀ w', RowV e w' w.heap.size (.slice (some ⟨w.heap.size, 0, none⟩) n n) (List.replicate n z) → Below w.heap.size w w' → w.heap.size < w'.heap.size → wpList Tryz.prog ops Q rest (a.put o.dst (.slice (some ⟨w.heap.size, 0, none⟩) n n)) w') :
    wpList Tryz.prog ops Q (o :: rest) a w := by
  cases hi : Tryz.prog.info? e with
  | none => rw [hi] at hinfo; cases hinfo
  | some i =>
  rw [hi] at hinfo
  simp only [Option.map_some, Option.some.injEq, Prod.mk.injEq] at hinfo
  have hb : i.bytes * n ≤ 281474976710656 := by
    rw [hinfo.2.2]
    have : bytes * n ≤ 24 * n := Nat.mul_le_mul_right _ hby
    omega
  refine wpList_make_full w hg l c t hop w.heap.size e i _ 1 ht hi hinfo.1 hinfo.2.1 .i64 .i64 L C n hl hc hL hC hb (by unfold maxLen; omega) (Nat.le_refl _) ?_
  intro w1 hown hgrow
  have hrep : (madeCells z.cells (n * 1)).toList = List.replicate n z := by
    rw [Nat.mul_one, hz, toList_madeCells_one]
  rw [hrep] at hown
  refine hK w1 (by unfold RowV; rw [List.length_replicate]; exact hown) ((Below.refl _ _).grown hgrow (Nat.le_refl _) (by simp)) ?_
  rcases hown.2 with ⟨h, _⟩ | ⟨g, _, _, h, _, hg, _⟩
  · simp at h
  · simp only [Value.slice.injEq, Option.some.injEq, Addr.mk.injEq, and_true, true_and] at h
    rw [h.1]
    exact (Array.getElem?_eq_some_iff.1 hg).1
end
set_option maxRecDepth 100000 in
theorem turned_impl (x : C2) (w : World) : Calls Tryz.prog 52 #[.complex .f32 x.1 x.2] w (RetX (negF (nrm .f32 x.1), negF (nrm .f32 x.2)) w) := by
  go_enter Tryz.func52, Tryz.ntmps52
  go_wp2_with (first | fail)
  go_ret
  exact ⟨_, _, 0, rfl, nrm_neg _, nrm_neg _, rfl⟩
set_option maxRecDepth 100000 in
theorem isZero_impl (v : Value) (rs : List C2) (w : World) (hv : RdV w v (cx rs)) (h : 2 ≤ rs.length) : Calls Tryz.prog 90 #[.agg #[v]] w (RB false w) := by
  obtain ⟨ao, cap, rfl, _⟩ := hv.shape
  rw [cx_length]
  clear hv
  have hz : ((rs.length : Int) == 1) = false := by simp; omega
  go_enter Tryz.func90, Tryz.ntmps90
  go_wp2_with fail
  go_ret
  exact ⟨rfl, by (repeat' (first | (with_reducible exact Below.refl _ _) | (with_reducible assumption) | (with_reducible refine Below.alloc ?_ ?_ _) | (with_reducible refine Below.setCell ?_ ?_ _) | (with_reducible refine Below.drew ?_) | (with_reducible refine Below.via (by assumption) ?_ ?_) | go_size))⟩
end Go.Proofs.YtdnoilcfgicnnaaGreat
