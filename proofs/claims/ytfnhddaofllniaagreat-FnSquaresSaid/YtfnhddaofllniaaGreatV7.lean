/- One Newton step, of the reference. Conditions: a polynomial with roots, a finite number; what is narrowed fits float32. -/
import Derived.Test.YtfnhddaofllniaaGreatV6
namespace Go.Proofs.YtfnhddaofllniaaGreat
set_option linter.unusedSimpArgs false
set_option linter.unusedVariables false
open Go Go.RowKit

set_option maxRecDepth 100000 in
set_option maxHeartbeats 4000000 in
theorem step_spec (p : Nat) (v : Value) (rs : List C2) (z : C2) (w : World) (hp : w.cell? ⟨p, 0, none⟩ = some v) (hv : RdV w v (cx rs)) (h1 : 1 ≤ rs.length) (h2 : rs.length ≤ 17)
    (hroot : rootedF (rs.map nc) = true) (hfin : finC (nc z) = true) (Hs : RowKit.Hid (safeStep (rs.map nc) (nc z))) :
    Calls Tryz.prog 100 #[.pointer (some ⟨p, 0, none⟩), .complex .f32 z.1 z.2] w (RetXB (stepF (rs.map nc) (nc z)) w) := by
  have n0 := nrm0
  obtain ⟨hs1, hs2, hs3⟩ : safeN (rs.map nc) (nc z) ∧ safeN (slopePolyF (rs.map nc)).1 (nc z) ∧ quoFit (polyAtF (rs.map nc) (nc z)).1 (polyAtF (slopePolyF (rs.map nc)).1 (nc z)).1 := Hs.out
  have Hs3 := Lib.hid hs3
  have Vspec := Lib.hid (values_spec p v rs z w hp hv h1 h2 hs1 hs2)
  have HF := Lib.hid (show stepF (rs.map nc) (nc z) = _ by unfold stepF; rw [if_pos (by rw [hroot, hfin]; rfl)])
  rw [HF.out]
  have HV := Lib.hid (show valuesF (rs.map nc) (nc z) = _ by unfold valuesF; rfl)
  rw [HV.out] at Vspec
  clear HF HV hp hv hs1 hs2 hs3 Hs hroot hfin
  generalize polyAtF (rs.map nc) (nc z) = V at *
  generalize slopePolyF (rs.map nc) = SP at *
  obtain ⟨v0, ok⟩ := V
  obtain ⟨S, ok2⟩ := SP
  dsimp only at *
  generalize polyAtF S (nc z) = T at *
  obtain ⟨t0, ok3⟩ := T
  dsimp only at *
  cases ok
  · rw [if_neg (by decide)] at Vspec ⊢
    go_enter Tryz.func100, Tryz.ntmps100
    go_wp2_with fail
    (go_at_call 112; ((with_reducible refine Vspec.out.mono ?_); rintro e w1 ⟨a, b, c, d, rfl, hab, hcd, hb1⟩))
    have Hab := Lib.hid hab
    have Hcd := Lib.hid hcd
    have BB := Lib.hid hb1
    clear hab hcd hb1
    dsimp only at Hab Hcd ⊢
    go_wp2_with fail
    go_ret2
    exact ⟨_, _, rfl, n0, n0, BB.out⟩
  · rw [if_pos rfl] at Vspec ⊢
    by_cases hz : zeroC v0 = true
    · rw [if_pos hz] at Vspec ⊢
      clear hz
      go_enter Tryz.func100, Tryz.ntmps100
      go_wp2_with fail
      (go_at_call 112; ((with_reducible refine Vspec.out.mono ?_); rintro e w1 ⟨a, b, c, d, rfl, hab, hcd, hb1⟩))
      have Hab := Lib.hid hab
      have Hcd := Lib.hid hcd
      have BB := Lib.hid hb1
      clear hab hcd hb1
      dsimp only at Hab Hcd ⊢
      have hz2 : zeroC (nc (a, b)) = true := by rw [Hab.out]; decide +kernel
      go_wp2_with fail
      go_ret2
      exact ⟨_, _, rfl, rfl, rfl, BB.out⟩
    · rw [if_neg hz] at Vspec ⊢
      have hz0 : zeroC v0 = false := by simpa using hz
      clear hz
      cases ok2
      · rw [if_neg (by decide)] at Vspec ⊢
        go_enter Tryz.func100, Tryz.ntmps100
        go_wp2_with fail
        (go_at_call 112; ((with_reducible refine Vspec.out.mono ?_); rintro e w1 ⟨a, b, c, d, rfl, hab, hcd, hb1⟩))
        have Hab := Lib.hid hab
        have Hcd := Lib.hid hcd
        have BB := Lib.hid hb1
        clear hab hcd hb1
        dsimp only at Hab Hcd ⊢
        go_wp2_with fail
        go_ret2
        exact ⟨_, _, rfl, n0, n0, BB.out⟩
      · rw [if_pos rfl] at Vspec ⊢
        cases ok3
        · rw [if_neg (by decide)] at Vspec
          rw [Bool.false_and, if_neg (by decide)]
          go_enter Tryz.func100, Tryz.ntmps100
          go_wp2_with fail
          (go_at_call 112; ((with_reducible refine Vspec.out.mono ?_); rintro e w1 ⟨a, b, c, d, rfl, hab, hcd, hb1⟩))
          have Hab := Lib.hid hab
          have Hcd := Lib.hid hcd
          have BB := Lib.hid hb1
          clear hab hcd hb1
          dsimp only at Hab Hcd ⊢
          go_wp2_with fail
          go_ret2
          exact ⟨_, _, rfl, n0, n0, BB.out⟩
        · rw [if_pos rfl] at Vspec
          rw [Bool.true_and]
          cases hq : finC (quoC v0 t0)
          · rw [if_neg (by decide)]
            go_enter Tryz.func100, Tryz.ntmps100
            go_wp2_with fail
            (go_at_call 112; ((with_reducible refine Vspec.out.mono ?_); rintro e w1 ⟨a, b, c, d, rfl, hab, hcd, hb1⟩))
            have Hab := Lib.hid hab
            have Hcd := Lib.hid hcd
            have BB := Lib.hid hb1
            clear hab hcd hb1
            dsimp only at Hab Hcd ⊢
            have hz2 : zeroC (nc (a, b)) = false := by rw [Hab.out]; exact hz0
            go_wp2_with fail
            (go_at_call 113; ((with_reducible refine (quo_spec (a, b) (c, d) (Lib.hid (by rw [Hab.out, Hcd.out]; exact Hs3.out)) _).mono ?_); rw [Hab.out, Hcd.out]; rintro e w' ⟨x, y, m, rfl, hx, hy, rfl⟩))
            have Hxy := Lib.hid (show nc (x, y) = quoC v0 t0 from Prod.ext hx hy)
            clear hx hy
            go_wp2_with fail
            (go_at_call 38; ((with_reducible refine (cfin1_spec (x, y) _).mono ?_); rw [Hxy.out, hq]; rintro e w' ⟨m2, rfl, rfl⟩))
            go_wp2_with fail
            go_ret2
            exact ⟨_, _, rfl, n0, n0, below_drewN BB.out _⟩
          · rw [if_pos rfl]
            go_enter Tryz.func100, Tryz.ntmps100
            go_wp2_with fail
            (go_at_call 112; ((with_reducible refine Vspec.out.mono ?_); rintro e w1 ⟨a, b, c, d, rfl, hab, hcd, hb1⟩))
            have Hab := Lib.hid hab
            have Hcd := Lib.hid hcd
            have BB := Lib.hid hb1
            clear hab hcd hb1
            dsimp only at Hab Hcd ⊢
            have hz2 : zeroC (nc (a, b)) = false := by rw [Hab.out]; exact hz0
            go_wp2_with fail
            (go_at_call 113; ((with_reducible refine (quo_spec (a, b) (c, d) (Lib.hid (by rw [Hab.out, Hcd.out]; exact Hs3.out)) _).mono ?_); rw [Hab.out, Hcd.out]; rintro e w' ⟨x, y, m, rfl, hx, hy, rfl⟩))
            have Hxy := Lib.hid (show nc (x, y) = quoC v0 t0 from Prod.ext hx hy)
            clear hx hy
            go_wp2_with fail
            (go_at_call 38; ((with_reducible refine (cfin1_spec (x, y) _).mono ?_); rw [Hxy.out, hq]; rintro e w' ⟨m2, rfl, rfl⟩))
            go_wp2_with (with_reducible refine wpList_cadd rfl .sub (.inr rfl) _ _ _ _ rfl _ _ _ _ rfl rfl ?_; intro g1 g2 m3 hg1 hg2)
            have Hg := Lib.hid (show nc (g1, g2) = subC (nc z) (quoC v0 t0) by
              have e1 : nrm .f32 x = (quoC v0 t0).1 := congrArg Prod.fst Hxy.out
              have e2 : nrm .f32 y = (quoC v0 t0).2 := congrArg Prod.snd Hxy.out
              unfold subC
              rw [← e1, ← e2]
              exact Prod.ext hg1 hg2)
            clear hg1 hg2
            refine (number_spec (g1, g2) _).mono ?_
            rw [Hg.out]
            generalize finiteX (subC (nc z) (quoC v0 t0)) = G at *
            rintro e w7 ⟨r1, r2, rfl, hr1, hr2, hb7⟩
            have Hr1 := Lib.hid hr1
            have Hr2 := Lib.hid hr2
            clear hr1 hr2
            go_wp2_with fail
            go_ret2
            exact ⟨_, _, rfl, Hr1.out, Hr2.out, (below_drewN BB.out _).trans (hb7.mono (show w.heap.size ≤ w1.heap.size from BB.out.size))⟩

end Go.Proofs.YtfnhddaofllniaaGreat

/- Newton steps one behind the other, of the reference. Conditions: a polynomial with roots, a finite number; what is narrowed fits float32. -/
namespace Go.Proofs.YtfnhddaofllniaaGreat
set_option linter.unusedSimpArgs false
set_option linter.unusedVariables false
open Go Go.RowKit

def polishF (F : List C2) : Nat → C2 → C2 × Bool
  | 0, z => (z, true)
  | n + 1, z => if (stepF F z).2 = true then polishF F n (stepF F z).1 else ((0, 0), false)
def safePolish (F : List C2) : Nat → C2 → Prop
  | 0, _ => True
  | n + 1, z => safeStep F z ∧ ((stepF F z).2 = true → safePolish F n (stepF F z).1)
theorem finiteX_fin {z : C2} (h : (finiteX z).2 = true) : finC (finiteX z).1 = true := by
  unfold finiteX at h ⊢
  split
  · assumption
  · rename_i hh; rw [if_neg hh] at h; cases h
theorem stepF_fin {F : List C2} {z : C2} (h : (stepF F z).2 = true) : finC (stepF F z).1 = true := by
  unfold stepF at h ⊢
  split
  · rename_i h1
    rw [if_pos h1] at h
    split
    · rename_i h2
      rw [if_pos h2] at h
      split
      · simp only [Bool.and_eq_true] at h1; exact h1.2
      · rename_i h3
        rw [if_neg h3] at h
        split
        · rename_i h4
          rw [if_pos h4] at h
          split
          · rename_i h5; rw [if_pos h5] at h; exact finiteX_fin h
          · rename_i h5; rw [if_neg h5] at h; cases h
        · rename_i h4; rw [if_neg h4] at h; cases h
    · rename_i h2; rw [if_neg h2] at h; cases h
  · rename_i h1; rw [if_neg h1] at h; cases h

set_option maxRecDepth 100000 in
set_option maxHeartbeats 1000000 in
theorem polish_spec (p : Nat) (v : Value) (rs : List C2) (z : C2) (n : Nat) (w : World) (hp : w.cell? ⟨p, 0, none⟩ = some v) (hv : RdV w v (cx rs)) (h1 : 1 ≤ rs.length) (h2 : rs.length ≤ 17)
    (hroot : rootedF (rs.map nc) = true) (hfin : finC (nc z) = true) (hn : n ≤ 64) (Hs : RowKit.Hid (safePolish (rs.map nc) n (nc z))) :
    Calls Tryz.prog 61 #[.pointer (some ⟨p, 0, none⟩), .complex .f32 z.1 z.2, .int .i64 n] w (RetXB (polishF (rs.map nc) n (nc z)) w) := by
  have n0 := nrm0
  have lp : p < w.heap.size := World.block_lt_of_cell? _ _ hp
  have ST := Lib.hid (fun w1 z1 (hb : Below w.heap.size w w1) hf Hs => step_spec p v rs z1 w1 ((hb.cell (p := ⟨p, 0, none⟩) lp).trans hp) (hv.below hb) h1 h2 hroot hf Hs)
  clear hp hv h1 h2 hroot lp
  generalize rs.map nc = F at *
  go_enter Tryz.func61, Tryz.ntmps61
  go_wp2
  go_loopw [1, 2] (fun zv i wr => ∃ (k : Nat) (x y : Nat), k ≤ n ∧ i = .int .i64 k ∧ zv = .complex .f32 x y ∧ Below w.heap.size w wr ∧ polishF F k (nc (x, y)) = polishF F n (nc z) ∧ safePolish F k (nc (x, y)) ∧ finC (nc (x, y)) = true) (fun _ i _ => (intOf i).toNat)
  case atStart => exact ⟨n, z.1, z.2, Nat.le_refl _, rfl, rfl, Below.refl _ _, rfl, Hs.out, hfin⟩
  case round =>
    obtain ⟨k, x, y, hk, rfl, rfl, hbel, hpol, hsafe, hf⟩ := hrel
    by_cases h0 : k = 0
    · subst h0
      have Hpol := Lib.hid (show polishF F n (nc z) = (nc (x, y), true) from hpol.symm)
      clear hpol hsafe
      go_wp2
      go_ret2
      rw [Hpol.out]
      exact ⟨_, _, rfl, rfl, rfl, hbel⟩
    · obtain ⟨j, rfl⟩ : ∃ j, k = j + 1 := ⟨k - 1, by omega⟩
      have C := Lib.hid (ST.out wr (x, y) hbel hf (Lib.hid hsafe.1))
      have Hpol := Lib.hid (show polishF F n (nc z) = if (stepF F (nc (x, y))).2 = true then polishF F j (stepF F (nc (x, y))).1 else ((0, 0), false) from hpol.symm)
      have Hsafe := Lib.hid hsafe.2
      have Hfin := Lib.hid (stepF_fin (F := F) (z := nc (x, y)))
      have Hb := Lib.hid hbel
      have j0 : (0 : Int) < (j : Int) + 1 := by omega
      have j1 : (0 : Int) ≤ (j : Int) := by omega
      clear hpol hsafe hbel hf
      generalize stepF F (nc (x, y)) = T at *
      obtain ⟨t0, ok⟩ := T
      dsimp only at *
      go_wp2_with fail
      refine C.out.mono ?_
      rintro e w1 ⟨a, b, rfl, ha, hb, hb1⟩
      have Hab := Lib.hid (show nc (a, b) = t0 from Prod.ext ha hb)
      replace Hb := Lib.hid (Hb.out.trans (hb1.mono Hb.out.size))
      clear ha hb hb1 C
      cases ok
      · go_wp2_with fail
        go_ret2
        rw [Hpol.out, if_neg (by decide)]
        exact ⟨_, _, rfl, n0, n0, Hb.out⟩
      · go_wp2_with fail
        go_roundw
        case rel => exact ⟨j, a, b, by omega, by go_num, rfl, Hb.out, by rw [Hab.out, Hpol.out]; simp, by rw [Hab.out]; first | exact Hsafe.out rfl | exact Hsafe.out trivial, by rw [Hab.out]; first | exact Hfin.out rfl | exact Hfin.out trivial⟩
        case measure => first | (simp [intOf]; done) | (simp [intOf]; omega)

end Go.Proofs.YtfnhddaofllniaaGreat

/- Ranges, lists of roots, and Newton steps one behind the other, of the program. Conditions: those of the statements. -/
namespace Go.Proofs.YtfnhddaofllniaaGreat
set_option linter.unusedSimpArgs false
set_option linter.unusedVariables false
open Go Go.RowKit

def inB (lo n hi : Int) : Bool := decide (lo ≤ n ∧ n ≤ hi)
theorem in_spec (n lo hi : Int) (w : World) : Calls Tryz.prog 52 #[.int .i64 n, .int .i64 lo, .int .i64 hi] w fun e w' => e = .returned (.bool (inB lo n hi)) ∧ w = w' := by
  by_cases h1 : lo ≤ n
  · by_cases h2 : n ≤ hi
    · have hd : inB lo n hi = true := by simp [inB, h1, h2]
      rw [hd]; clear hd
      go_enter Tryz.func52, Tryz.ntmps52
      go_wp2
      go_ret
      exact ⟨rfl, rfl⟩
    · have hd : inB lo n hi = false := by simp [inB, h2]
      rw [hd]; clear hd
      go_enter Tryz.func52, Tryz.ntmps52
      go_wp2
      go_ret
      exact ⟨rfl, rfl⟩
  · have hd : inB lo n hi = false := by simp [inB, h1]
    rw [hd]; clear hd
    go_enter Tryz.func52, Tryz.ntmps52
    go_wp2
    go_ret
    exact ⟨rfl, rfl⟩

theorem within_impl (n lo hi : Int) (w : World) : Calls Tryz.prog 46 #[.int .i64 n, .int .i64 lo, .int .i64 hi] w fun e w' => e = .returned (.bool (inB lo n hi)) ∧ w = w' := by
  by_cases h1 : lo ≤ n
  · by_cases h2 : n ≤ hi
    · have hd : inB lo n hi = true := by simp [inB, h1, h2]
      rw [hd]; clear hd
      go_enter Tryz.func46, Tryz.ntmps46
      go_wp2
      go_ret
      exact ⟨rfl, rfl⟩
    · have hd : inB lo n hi = false := by simp [inB, h2]
      rw [hd]; clear hd
      go_enter Tryz.func46, Tryz.ntmps46
      go_wp2
      go_ret
      exact ⟨rfl, rfl⟩
  · have hd : inB lo n hi = false := by simp [inB, h1]
    rw [hd]; clear hd
    go_enter Tryz.func46, Tryz.ntmps46
    go_wp2
    go_ret
    exact ⟨rfl, rfl⟩



set_option maxRecDepth 100000 in
theorem areRoots_impl (v : Value) (rs : List C2) (w : World) (hv : RdV w v (cx rs)) (h1 : 1 ≤ rs.length) (h2 : rs.length ≤ 16) :
    Calls Tryz.prog 66 #[v] w (RB (allFinC rs) w) := by
  obtain ⟨ao, cap, rfl, _⟩ := hv.shape
  rw [cx_length] at hv ⊢
  have Hv := Lib.hid hv
  clear hv
  have j1 : (1 : Int) ≤ (rs.length : Int) := by omega
  have j2 : (rs.length : Int) ≤ 16 := by omega
  go_enter Tryz.func66, Tryz.ntmps66
  go_wp2_with fail
  (go_at_call 41; ((with_reducible refine (allFinite_impl _ rs _ Hv.out (by omega)).mono ?_); rintro e w1 ⟨rfl, hb1⟩))
  go_wp2_with fail
  go_ret
  exact ⟨by simp, hb1⟩
set_option maxRecDepth 100000 in
theorem list_spec (v : Value) (rs : List C2) (w : World) (hv : RdV w v (cx rs)) (h1 : 1 ≤ rs.length) (h2 : rs.length ≤ 16) :
    Calls Tryz.prog 68 #[v] w (RetB (allFinC rs) w) := by
  obtain ⟨ao, cap, rfl, _⟩ := hv.shape
  rw [cx_length] at hv ⊢
  have Hv := Lib.hid hv
  clear hv
  have j1 : (1 : Int) ≤ (rs.length : Int) := by omega
  have j2 : (rs.length : Int) ≤ 16 := by omega
  go_enter Tryz.func68, Tryz.ntmps68
  go_wp2_with fail
  (go_at_call 24; ((with_reducible refine (cfinite_spec _ rs _ Hv.out (by omega)).mono ?_); rintro e w1 ⟨m, rfl, rfl⟩))
  go_wp2_with fail
  go_ret
  exact ⟨_, by simp, rfl⟩

set_option maxRecDepth 100000 in
set_option maxHeartbeats 1000000 in
theorem polish_impl (v : Value) (rs : List C2) (z : C2) (n : Nat) (w : World) (hv : RdV w v (cx rs)) (h1 : 1 ≤ rs.length) (h2 : rs.length ≤ 17)
    (hroot : rootedF (rs.map nc) = true) (hfin : finC (nc z) = true) (hn : n ≤ 64) (Hs : RowKit.Hid (safePolish (rs.map nc) n (nc z))) :
    Calls Tryz.prog 65 #[.agg #[v], .complex .f32 z.1 z.2, .int .i64 n] w (RetXB (polishF (rs.map nc) n (nc z)) w) := by
  have n0 := nrm0
  obtain ⟨ao, cap, rfl, _⟩ := hv.shape
  rw [cx_length] at hv ⊢
  have Hv := Lib.hid hv
  clear hv
  have Ha := Lib.hid (show allFinC [z] = true by simp [allFinC, hfin])
  have X0 := Lib.hid (World.cell?_alloc_new w #[.slice ao rs.length cap] 28 0 : (w.alloc (.cells #[.slice ao rs.length cap] 28)).cell? ⟨w.heap.size, 0, none⟩ = some (.slice ao rs.length cap))
  have Rimpl := Lib.hid (fun v w hv => rooted_impl v rs w hv h1 h2)
  have hin : inB 0 n 64 = true := by simp [inB]; omega
  have Hin := Lib.hid hin
  rw [hroot] at Rimpl
  clear hin
  go_enter Tryz.func65, Tryz.ntmps65
  go_wp2_with fail
  (go_at_call 27; ((with_reducible refine (Rimpl.out _ _ (Hv.out.alloc _)).mono ?_); rintro e w1 ⟨rfl, hb1⟩))
  have xp : w1.cell? ⟨w.heap.size, 0, none⟩ = some (.slice ao rs.length cap) := (hb1.cell (p := ⟨w.heap.size, 0, none⟩) (by simp)).trans X0.out
  have lp : w.heap.size < w1.heap.size := by have := hb1.size; simp only [World.size_alloc] at this; omega
  have BB := Lib.hid (show Below w.heap.size w w1 from ((Below.refl _ _).alloc (Nat.le_refl _) _).trans (hb1.mono (by simp)))
  have V1 := Lib.hid ((Hv.out.alloc _).below hb1)
  clear hb1
  go_wp2_with fail
  (go_at_call 41; ((with_reducible refine (allFinite_impl _ [z] _ (rd_c1 rfl z) (by simp)).mono ?_); rintro e w2 ⟨rfl, hb2⟩))
  rw [Ha.out]
  have lp2 : w.heap.size ≤ w1.heap.size := by omega
  replace BB := Lib.hid (show Below w.heap.size w w2 from (BB.out.alloc BB.out.size _).trans (hb2.mono (by simp; omega)))
  replace xp := ((hb2.cell (p := ⟨w.heap.size, 0, none⟩) (by simp; omega)).trans (((Below.refl _ _).alloc (Nat.le_refl _) _).cell (p := ⟨w.heap.size, 0, none⟩) lp)).trans xp
  replace V1 := Lib.hid ((V1.out.alloc _).below hb2)
  replace lp : w.heap.size < w2.heap.size := World.block_lt_of_cell? _ _ xp
  clear hb2 lp2
  have ST := Lib.hid (fun w3 z1 (hb : Below w2.heap.size w2 w3) Hs => step_impl (.slice ao rs.length cap) rs z1 w3 (V1.out.below hb) h1 h2 Hs)
  clear h1 h2 hroot
  generalize rs.map nc = F at *
  go_wp2_with (go_at_call 46; go_must (refine (within_impl _ _ _ _).mono ?_); rw [Hin.out]; rintro e w' ⟨rfl, rfl⟩)
  have B2 := Below.refl w2.heap.size w2
  go_loopw [1, 24] (fun zv i wr => ∃ (k : Nat) (x y : Nat), k ≤ n ∧ i = .int .i64 k ∧ zv = .complex .f32 x y ∧ Below w2.heap.size w2 wr ∧ polishF F (n - k) (nc (x, y)) = polishF F n (nc z) ∧ safePolish F (n - k) (nc (x, y))) (fun _ i _ => n - (intOf i).toNat)
  case atStart => exact ⟨0, z.1, z.2, Nat.zero_le _, rfl, rfl, Below.refl _ _, rfl, Hs.out⟩
  case round =>
    obtain ⟨k, x, y, hk, rfl, rfl, hbel, hpol, hsafe⟩ := hrel
    have xq := (hbel.cell (p := ⟨w.heap.size, 0, none⟩) lp).trans xp
    by_cases h0 : k < n
    · obtain ⟨j, hj⟩ : ∃ j, n - k = j + 1 := ⟨n - k - 1, by omega⟩
      rw [hj] at hpol hsafe
      have Hj := Lib.hid hj
      have C := Lib.hid (ST.out wr (x, y) hbel (Lib.hid hsafe.1))
      have Hpol := Lib.hid (show polishF F n (nc z) = if (stepF F (nc (x, y))).2 = true then polishF F j (stepF F (nc (x, y))).1 else ((0, 0), false) from hpol.symm)
      have Hsafe := Lib.hid hsafe.2
      have Hb := Lib.hid hbel
      have j1 : (k : Int) < (n : Int) := by omega
      clear hpol hsafe hbel hj
      generalize stepF F (nc (x, y)) = T at *
      obtain ⟨t0, ok⟩ := T
      dsimp only at *
      go_wp2_with fail
      refine C.out.mono ?_
      rintro e w3 ⟨a, b, rfl, ha, hb, hb1⟩
      have Hab := Lib.hid (show nc (a, b) = t0 from Prod.ext ha hb)
      replace Hb := Lib.hid (Hb.out.trans (hb1.mono Hb.out.size))
      clear ha hb hb1 C
      cases ok
      · go_wp2_with fail
        go_ret2
        rw [Hpol.out, if_neg (by decide)]
        exact ⟨_, _, rfl, n0, n0, BB.out.trans (Hb.out.mono BB.out.size)⟩
      · go_wp2_with fail
        go_roundw
        case rel => exact ⟨k + 1, a, b, by omega, by go_num, rfl, Hb.out, by rw [Hab.out, Hpol.out, show n - (k + 1) = j by have := Hj.out; omega]; simp, by rw [Hab.out, show n - (k + 1) = j by have := Hj.out; omega]; first | exact Hsafe.out rfl | exact Hsafe.out trivial⟩
        case measure => first | (simp [intOf]; done) | (simp [intOf]; omega)
    · obtain rfl : k = n := by omega
      rw [Nat.sub_self] at hpol
      have Hpol := Lib.hid (show polishF F k (nc z) = (nc (x, y), true) from hpol.symm)
      clear hpol hsafe
      go_wp2
      go_ret2
      rw [Hpol.out]
      exact ⟨_, _, rfl, rfl, rfl, BB.out.trans (hbel.mono BB.out.size)⟩

end Go.Proofs.YtfnhddaofllniaaGreat

/- Terms of a list of complex numbers, 0 for one that is missing; of the reference. Conditions: lengths of at most 1000. -/
namespace Go.Proofs.YtfnhddaofllniaaGreat
set_option linter.unusedSimpArgs false
set_option linter.unusedVariables false
open Go Go.RowKit

/-- A number of a list, 0 for one that is missing. -/
def catF (l : List C2) (k : Int) : C2 := if 0 ≤ k then l.getD k.toNat (0, 0) else (0, 0)
theorem catF_neg {l : List C2} {k : Int} (h : k < 0) : catF l k = (0, 0) := by rw [catF, if_neg (by omega)]
theorem catF_over {l : List C2} {k : Int} (h : (l.length : Int) ≤ k) : catF l k = (0, 0) := by
  unfold catF
  split
  · rw [List.getD, List.getElem?_eq_none (by omega)]; rfl
  · rfl
theorem catF_in {l : List C2} {k : Nat} : catF l k = l.getD k (0, 0) := by rw [catF, if_pos (by omega)]; simp
theorem catF_map (l : List C2) (k : Int) : catF (l.map nc) k = nc (catF l k) := by
  unfold catF
  split
  · exact getD_nc l _
  · exact nc0.symm

theorem term_spec (v : Value) (rs : List C2) (k : Int) (w : World) (hv : RdV w v (cx rs)) (hl : rs.length ≤ 1000) (h0 : -1000 ≤ k) (h1 : k ≤ 1000) :
    Calls Tryz.prog 73 #[v, .int .i64 k] w fun e w' => e = .returned (.complex .f32 (catF rs k).1 (catF rs k).2) ∧ w = w' := by
  by_cases k0 : k < 0
  · obtain ⟨ao, cap, rfl, _⟩ := hv.shape
    rw [cx_length]
    have H := Lib.hid (catF_neg (l := rs) k0)
    clear hv
    go_enter Tryz.func73, Tryz.ntmps73
    go_wp2
    go_ret
    rw [H.out]
    exact ⟨rfl, rfl⟩
  · by_cases k1 : (rs.length : Int) ≤ k
    · obtain ⟨ao, cap, rfl, _⟩ := hv.shape
      rw [cx_length]
      have H := Lib.hid (catF_over k1)
      clear hv
      go_enter Tryz.func73, Tryz.ntmps73
      go_wp2
      go_ret
      rw [H.out]
      exact ⟨rfl, rfl⟩
    · obtain ⟨n, rfl⟩ := Int.eq_ofNat_of_zero_le (show 0 ≤ k by omega)
      rcases hv.openC with ⟨rfl, _⟩ | ⟨b, off, cap, rfl, hb, hcp, hc⟩
      · exact absurd k1 (by simp)
      · have c1 := hc n (by omega)
        have H := Lib.hid (show catF rs n = rs[n]'(by omega) by rw [catF_in]; simp [List.getD, show n < rs.length by omega])
        clear hc hv
        generalize (rs[n]'(by omega)) = x at *
        obtain ⟨x1, x2⟩ := x
        go_enter Tryz.func73, Tryz.ntmps73
        go_wp2
        go_ret
        rw [H.out]
        exact ⟨rfl, rfl⟩

end Go.Proofs.YtfnhddaofllniaaGreat

/- A drawn region whose operation 0 is a pure read that only the tail wants: it is taken first, the others then in the text's order. Conditions: none. -/
namespace Go.Proofs.YtfnhddaofllniaaGreat
set_option linter.unusedSimpArgs false
set_option linter.unusedVariables false
open Go

section
variable {P : Program} {ops : Array Oper} {md : Region.Mode} {C : World → Prop} {G : FuncId → Array Value → Value → Prop}
structure HeadInv0 (md : Region.Mode) (ops : Array Oper) (n : Nat) (listed : Array Bool) : Prop where
  inv : HeadInv md ops n listed
  zero : listed.getD 0 true = true
theorem HeadInv0.set {n i : Nat} {listed : Array Bool} (h : HeadInv0 md ops n listed) (hi : i ∈ Region.ready md ops listed) (hin : i < n) : HeadInv0 md ops n (listed.setIfInBounds i true) := by
  refine ⟨h.inv.set hi hin, ?_⟩
  by_cases h0 : i = 0
  · subst h0
    rcases Nat.lt_or_ge 0 listed.size with h' | h'
    · simp [h']
    · simp [Array.getElem?_eq_none h']
  · rw [getD_set_ne true h0]; exact h.zero
def sink0 (md : Region.Mode) (ops : Array Oper) (n : Nat) : Bool :=
  (List.range n).all fun i => i == 0 || (List.range (n + 1)).any fun j => decide (i < j) && Region.waitsFor md ops j i
theorem tail_waits0 {n : Nat} {listed : Array Bool} (hs : sink0 md ops n = true) (hc : Region.chainB md ops n = true) (hn : n < ops.size) (inv0 : HeadInv0 md ops n listed) :
    ∀ (d i : Nat), n - i = d → i < n → listed.getD i true = false → ∀ t, n ≤ t → t ∉ Region.ready md ops listed := by
  have inv := inv0.inv
  intro d
  induction d using Nat.strongRecOn with
  | _ d ih =>
    intro i hd hi hun t ht hr
    obtain ⟨_, ot, hot, hall⟩ := mem_ready.1 hr
    have htlt : t < ops.size := (Array.getElem?_eq_some_iff.1 hot).1
    have hi0 : i ≠ 0 := by
      rintro rfl
      rw [inv0.zero] at hun
      cases hun
    by_cases htn : t = n
    · subst htn
      have h1 := List.all_eq_true.1 hs i (List.mem_range.2 hi)
      simp only [Bool.or_eq_true, beq_iff_eq, hi0, false_or] at h1
      obtain ⟨j, hj, hj2⟩ := List.any_eq_true.1 h1
      simp only [Bool.and_eq_true, decide_eq_true_eq] at hj2
      obtain ⟨oj, hoj, e, he, hb, hon⟩ := Region.waitsFor_spec hj2.2
      have hjle : j ≤ t := by have := List.mem_range.1 hj; omega
      by_cases hjt : j = t
      · subst hjt
        have : oj = ot := Option.some.inj (hoj.symm.trans hot)
        subst this
        have h2 := hall e he hb
        rw [hon, getD_both hun] at h2
        cases h2
      · cases hl : listed.getD j false with
        | true =>
          have h2 := inv.closed j oj hoj hl e he hb
          rw [hon, getD_both hun] at h2
          cases h2
        | false =>
          have hjs : j < listed.size := by rw [inv.size]; omega
          exact ih (t - j) (by omega) j rfl (by omega) (getD_in hjs hl) t (Nat.le_refl _) hr
    · have h1 := List.all_eq_true.1 hc t (List.mem_range.2 htlt)
      simp only [Bool.or_eq_true, decide_eq_true_eq] at h1
      rcases h1 with h1 | h1
      · omega
      · obtain ⟨o', ho', e, he, hb, hon⟩ := Region.waitsFor_spec h1
        have : o' = ot := Option.some.inj (ho'.symm.trans hot)
        subst this
        have h2 := hall e he hb
        rw [hon, getD_both (inv.tail (t - 1) (by omega) (by omega))] at h2
        cases h2

/-- An operation that may come up now may be taken first. -/
theorem wpAnyV_first0 {n i : Nat} {oi : Oper} {L : Array Bool → Act → Prop} (hi : ops[i]? = some oi) (hsel : ∀ (j : Nat) (o : Oper) cs b, ops[j]? = some o → o.op ≠ .select cs b) {w : World} (hw : C w) (hin : i < n)
    (hwait : ∀ listed, HeadInv0 md ops n listed → ∀ i, i < n → listed.getD i true = false → ∀ t, n ≤ t → t ∉ Region.ready md ops listed)
    (hdone : ∀ listed a, L listed a → ∀ j ∈ Region.ready md ops listed, n ≤ j) :
    ∀ (f : Nat) (listed : Array Bool) (a : Act), HeadInv0 md ops n listed →
      (∀ j oj, ops[j]? = some oj → j ≠ i → listed.getD j true = false → (∀ e ∈ oj.after, Region.binds md e = true → e.on ≠ i) → oi.apart ops oj = true) →
      i ∈ Region.ready md ops listed →
      vOne P ops C G oi (wpAnyV P md ops C G n L f (listed.setIfInBounds i true)) a → wpAnyV P md ops C G n L (f + 1) listed a := by
  have some_of : ∀ {K : Act → Prop} {a : Act}, vOne P ops C G oi K a → ∃ v, K (a.put oi.dst v) := by
    intro K a h
    cases hwi : Region.wanted oi (yielded ops a.tmps) with
    | true =>
      obtain ⟨g, ho⟩ := h.1 hwi
      obtain ⟨v, hv⟩ := g.outs hw
      exact ⟨v, ho v hv⟩
    | false => exact ⟨undef, h.2 hwi⟩
  intro f
  induction f with
  | zero =>
    intro listed a inv _ hr H
    have hun := (mem_ready.1 hr).1
    refine ⟨fun h => (by rw [h] at hr; cases hr), fun j hj => ?_⟩
    have hjn : j < n := by
      rcases Nat.lt_or_ge j n with h | h
      · exact h
      · exact absurd hj (hwait _ inv i hin hun j h)
    refine ⟨hjn, ?_⟩
    by_cases hji : j = i
    · subst hji; unfold vOp; simp only [hi]; exact H
    · obtain ⟨v, hv⟩ := some_of H
      have := hdone _ _ hv j (ready_mono hj hji)
      omega
  | succ f ih =>
    intro listed a inv hfree hr H
    have hun := (mem_ready.1 hr).1
    refine ⟨fun h => (by rw [h] at hr; cases hr), fun j hj => ?_⟩
    have hjn : j < n := by
      rcases Nat.lt_or_ge j n with h | h
      · exact h
      · exact absurd hj (hwait _ inv i hin hun j h)
    refine ⟨hjn, ?_⟩
    by_cases hji : j = i
    · subst hji; unfold vOp; simp only [hi]; exact H
    · obtain ⟨hjun, oj, hoj, hall⟩ := mem_ready.1 hj
      have hnot : ∀ e ∈ oj.after, Region.binds md e = true → e.on ≠ i := fun e he hb heq => by
        have h1 := hall e he hb
        rw [heq, getD_both hun] at h1
        cases h1
      have h1 : vOne P ops C G oi (vOne P ops C G oj (wpAnyV P md ops C G n L f ((listed.setIfInBounds i true).setIfInBounds j true))) a :=
        vOne_mono (fun a' h' => by
          have := (h'.2 j (ready_mono hj hji)).2
          unfold vOp at this
          simpa only [hoj] using this) H
      have h2 := vOne_swap (hfree j oj hoj hji hjun hnot) (fun cs b => hsel i oi cs b hi) (fun cs b => hsel j oj cs b hoj) hw h1
      have hfree' : ∀ k ok, ops[k]? = some ok → k ≠ i → (listed.setIfInBounds j true).getD k true = false →
          (∀ e ∈ ok.after, Region.binds md e = true → e.on ≠ i) → oi.apart ops ok = true := fun k ok hk hki hun' hno => by
        refine hfree k ok hk hki ?_ hno
        by_cases hjk : j = k
        · subst hjk; exact hjun
        · rw [getD_set_ne true hjk] at hun'; exact hun'
      unfold vOp
      simp only [hoj]
      refine vOne_mono (fun a' h3 => ih (listed.setIfInBounds j true) a' (inv.set hj hjn) hfree' (ready_mono hr (Ne.symm hji)) ?_) h2
      rw [Array.setIfInBounds_comm _ _ hji]
      exact h3

theorem wpAnyV_lex0 {n g : Nat} {Lq : Act → Prop} (hsel : Region.noSelect ops = true) {w : World} (hw : C w)
    (hwait : ∀ listed, HeadInv0 md ops n listed → ∀ i, i < n → listed.getD i true = false → ∀ t, n ≤ t → t ∉ Region.ready md ops listed) :
    ∀ (l : List Oper) (k : Nat) (listed : Array Bool) (a : Act), (∀ j, j < l.length → l[j]? = ops[k + j]?) → k + l.length = n → HeadInv0 md ops n listed →
    Region.lexHead md ops g l.length k listed = true → wpV P ops C G Lq l a →
    wpAnyV P md ops C G n (fun listed' a' => Region.seqB md ops g n listed' = true ∧ Lq a') l.length listed a
  | [], k, listed, a, _, hk, _, hB, h => by
    have : k = n := by simpa using hk
    subst this
    exact ⟨by simpa [Region.lexHead] using hB, h⟩
  | o :: l, k, listed, a, hl, hk, inv, hB, h => by
    have h0 : ops[k]? = some o := by simpa using (hl 0 (by simp)).symm
    simp only [List.length_cons, Region.lexHead, Bool.and_eq_true] at hB
    obtain ⟨⟨hr, hf⟩, hB'⟩ := hB
    have hkn : k < n := by simp only [List.length_cons] at hk; omega
    have hr' : k ∈ Region.ready md ops listed := by simpa using hr
    exact wpAnyV_first0 h0 (Region.noSelect_spec hsel) hw hkn hwait (fun listed' a' hL => seqB_ready hL.1) l.length listed a inv (Region.free_spec h0 hf) hr'
      (vOne_mono (fun a' h' => wpAnyV_lex0 hsel hw hwait l (k + 1) _ a' (fun j hj => by have := hl (j + 1) (by simp; omega); simpa [Nat.add_assoc, Nat.add_comm 1 j] using this) (by simp only [List.length_cons] at hk; omega) (inv.set hr' hkn) hB' h') h)


def lexV0 (md : Region.Mode) (ops : Array Oper) (n : Nat) : Bool :=
  Region.noSelect ops && decide (1 ≤ n) && decide (n < ops.size) && sink0 md ops n && Region.chainB md ops n && (Region.ready md ops (Array.replicate ops.size false)).contains 0 && Region.free md ops (Array.replicate ops.size false) 0 &&
    Region.lexHead md ops (ops.size - n) (n - 1) 1 ((Array.replicate ops.size false).setIfInBounds 0 true)

theorem wp_region_v0 {id : Nat} {Q : Exit → Act → World → Prop} {a : Act} {w : World} {l : List Oper} (n : Nat) (G : FuncId → Array Value → Value → Prop) (o0 : Oper) (v : Value) (hm : P.follows .mixedOrders = true) (h0 : l.toArray[0]? = some o0) (hB : lexV0 .any l.toArray n = true)
    (hQ : ∀ c a w, Q (.panic c) (a.put o0.dst v) w → Q (.panic c) a w) (hy : Yields P l.toArray o0 v a)
    (h : wpV P l.toArray (fun w' => ∃ m, w' = w.drewN m) G (fun a' => ∀ m, wpList P l.toArray Q (l.drop n) a' (w.drewN m)) ((l.drop 1).take (n - 1)) (a.put o0.dst v)) : (Code.region id l.toArray true).wp P Q a w := by
  simp only [lexV0, Bool.and_eq_true, decide_eq_true_eq] at hB
  obtain ⟨⟨⟨⟨⟨⟨⟨hsel, hn1⟩, hn⟩, hs⟩, hc⟩, hr0⟩, hf0⟩, hlex⟩ := hB
  have hnl : n < l.length := by simpa using hn
  have hwait : ∀ listed, HeadInv0 .any l.toArray n listed → ∀ i, i < n → listed.getD i true = false → ∀ t, n ≤ t → t ∉ Region.ready .any l.toArray listed :=
    fun listed inv i hi hun t ht => tail_waits0 hs hc hn inv _ i rfl hi hun t ht
  have htl : ((l.drop 1).take (n - 1)).length = n - 1 := by simp; omega
  have hdl : (l.drop n).length = l.toArray.size - n := by simp
  have inv0 : HeadInv .any l.toArray n (Array.replicate l.toArray.size false) :=
    ⟨by simp, fun j oj _ hl => (by rw [getD_replicate_false] at hl; cases hl), fun t _ ht => getD_in (by simpa using ht) (getD_replicate_false _ _)⟩
  have hr0' : 0 ∈ Region.ready .any l.toArray (Array.replicate l.toArray.size false) := by simpa using hr0
  have inv1 : HeadInv0 .any l.toArray n ((Array.replicate l.toArray.size false).setIfInBounds 0 true) :=
    ⟨inv0.set hr0' (by omega), by
      have : 0 < l.toArray.size := by simp; omega
      simp [this]⟩
  have hC : (fun w' : World => ∃ m, w' = w.drewN m) { w with drawn := w.drawn + 1 } := ⟨1, rfl⟩
  have H := wpAnyV_lex0 (md := .any) (g := l.toArray.size - n) hsel hC hwait ((l.drop 1).take (n - 1)) 1 _ _ (fun j hj => by
    rw [htl] at hj
    rw [List.getElem?_take, if_pos hj, List.getElem?_drop]
    simp) (by rw [htl]; omega) inv1 (by rw [htl]; exact hlex) h
  refine wp_region_any hm ?_
  have H2 := wpAny_of_v (Q' := Q) (g := l.toArray.size - n) (fun listed a' w' hw' hL => by
    obtain ⟨m, rfl⟩ := hw'
    have := wpAny_of_seq (md := .any) (Q' := Q) (l.drop n) n listed a' (w.drewN m) (fun j => by simp [List.getElem?_drop]) (by rw [hdl]; exact hL.1) (hL.2 m)
    rwa [hdl] at this) _ _ _ _ hC H
  rw [htl] at H2
  have key := wpAny_take h0 hsel hf0 hr0 hQ hy H2
  have e : n - 1 + (l.toArray.size - n) + 1 = l.toArray.size := by simp; omega
  rw [e] at key
  exact key

end
end Go.Proofs.YtfnhddaofllniaaGreat

/- The terms of a polynomial of roots, of the reference. Conditions: at most 6 roots; what is narrowed fits float32. -/
namespace Go.Proofs.YtfnhddaofllniaaGreat
set_option linter.unusedSimpArgs false
set_option linter.unusedVariables false
open Go Go.RowKit

def rootG (r : C2) (c : List C2) (k : Nat) : C2 := subC (catF c ((k : Int) - 1)) (mulC r (catF c k))
def rootsL (L : List C2) : Nat → List C2
  | 0 => [nc (1065353216, 0)]
  | i + 1 => (List.range ((rootsL L i).length + 1)).map (rootG (L.getD i (0, 0)) (rootsL L i))
theorem rootsL_length (L : List C2) (i : Nat) : (rootsL L i).length = i + 1 := by
  induction i with
  | zero => rfl
  | succ i ih => simp [rootsL, ih]
theorem rootsL_succ (L : List C2) (i : Nat) : rootsL L (i + 1) = (List.range ((rootsL L i).length + 1)).map (rootG (L.getD i (0, 0)) (rootsL L i)) := rfl
def safeRoots (L : List C2) : Prop := ∀ i, i < L.length → ∀ k, k < i + 2 → fit2 (timesF (L.getD i (0, 0)) (catF (rootsL L i) k))
theorem range_map_succ (g : Nat → C2) (k : Nat) : (List.range (k + 1)).map g = (List.range k).map g ++ [g k] := by simp [List.range_succ]

/-- The calls of the region: terms, and the product. -/
def GR (cs : List C2) (cv : Value) (M : C2) (f : FuncId) (args : Array Value) (u : Value) : Prop :=
  (f = 73 ∧ ∃ kk : Int, args = #[cv, .int .i64 kk] ∧ u = .complex .f32 (catF cs kk).1 (catF cs kk).2) ∨ (f = 44 ∧ ∃ a b, u = .complex .f32 a b ∧ nc (a, b) = M)

set_option maxRecDepth 100000 in
set_option maxHeartbeats 2000000 in
theorem rooted_terms (v : Value) (ls : List C2) (w : World) (hv : RdV w v (cx ls)) (h1 : 1 ≤ ls.length) (h2 : ls.length ≤ 6) (Hs : RowKit.Hid (safeRoots (ls.map nc))) :
    Calls Tryz.prog 26 #[v] w fun e w' => ∃ v' qs, e = .returned v' ∧ qs.map nc = rootsL (ls.map nc) ls.length ∧ RdV w' v' (cx qs) ∧ Below w.heap.size w w' := by
  rcases hv.openC with ⟨rfl, _⟩ | ⟨b, off, cap, rfl, hb, hcp, hc⟩
  · simp at h1
  have Hc := Lib.hid (show ∀ i, i < ls.length → w.cell? ⟨b, off + i, none⟩ = some (.complex .f32 (ls.getD i (0, 0)).1 (ls.getD i (0, 0)).2) from fun i hi => by
    rw [hc i hi]; simp [List.getD, hi])
  have Hg := Lib.hid (fun i => getD_nc ls i)
  have HL := Lib.hid (show (ls.map nc).length = ls.length from List.length_map ..)
  clear hc hv hcp
  generalize ls.map nc = L at *
  generalize ls.length = N at *
  go_enter Tryz.func26, Tryz.ntmps26
  go_wp2
  go_loopw [3, 4] (fun cv iv wr => ∃ (i : Nat) (cs : List C2), i ≤ N ∧ iv = .int .i64 i ∧ RdV wr cv (cx cs) ∧ cs.map nc = rootsL L i ∧ Below w.heap.size w wr) (fun _ iv _ => N - (intOf iv).toNat)
  case atStart => exact ⟨0, [(1065353216, 0)], Nat.zero_le _, rfl, rd_c1 rfl (1065353216, 0), rfl, (Below.refl _ _).alloc (Nat.le_refl _) _⟩
  case round =>
    obtain ⟨i, cs, hi, rfl, hcs, hmap, hbel⟩ := hrel
    have hsz := hbel.size
    have hcl : cs.length = i + 1 := by have := congrArg List.length hmap; simpa [rootsL_length] using this
    by_cases hlt : i < N
    · have c1 := (hbel.cell (p := ⟨b, off + i, none⟩) hb).trans (Hc.out i hlt)
      have HR := Lib.hid (show L.getD i (0, 0) = nc (ls.getD i (0, 0)) from Hg.out i)
      have HF := Lib.hid (Hs.out i (by rw [HL.out]; exact hlt))
      generalize ls.getD i (0, 0) = r at *
      obtain ⟨r1, r2⟩ := r
      obtain ⟨ao, cap2, rfl, _⟩ := hcs.shape
      rw [cx_length, hcl] at hcs ⊢
      have Hcs := Lib.hid hcs
      have Hmap := Lib.hid hmap
      have Hbel := Lib.hid hbel
      have Hcl := Lib.hid hcl
      clear hcs hmap hbel hcl
      have j0 : (0 : Int) ≤ (i : Int) := by omega
      have j1 : (i : Int) < (N : Int) := by omega
      go_wp2
      go_loopw [5, 6] (fun nv kv wi => ∃ (k : Nat) (ts : List C2), k ≤ i + 2 ∧ kv = .int .i64 k ∧ RowV 32 wi wr.heap.size nv (cx ts) ∧ ts.map nc = (List.range k).map (rootG (nc (r1, r2)) (rootsL L i)) ∧ Below wr.heap.size wr wi) (fun _ kv _ => i + 2 - (intOf kv).toNat)
      case atStart => exact ⟨0, [], Nat.zero_le _, rfl, row_nil (Nat.le_refl _) _, rfl, (Below.refl _ _).alloc (Nat.le_refl _) _⟩
      case round =>
        obtain ⟨k, ts, hk, rfl, hrow, hts, hbel2⟩ := hrel
        have hsz2 := hbel2.size
        have htl : ts.length = k := by have := congrArg List.length hts; simpa using this
        have hcl := Hcl.out
        by_cases hk2 : k < i + 2
        · have TS1 := Lib.hid (fun n => term_spec (.slice ao (i + 1) cap2) cs ((k : Int) - 1) (wr.drewN n) (Hcs.out.below (below_drewN hbel2 n)) (by omega) (by omega) (by omega))
          have TS2 := Lib.hid (fun n => term_spec (.slice ao (i + 1) cap2) cs (k : Int) (wr.drewN n) (Hcs.out.below (below_drewN hbel2 n)) (by omega) (by omega) (by omega))
          have c2 := (hbel2.cell (p := ⟨b, off + i, none⟩) (by simp only; omega)).trans c1
          have Hf := Lib.hid (show fit2 (timesF (nc (r1, r2)) (nc (catF cs k))) by
            have := HF.out k hk2
            rw [HR.out, ← Hmap.out, catF_map] at this
            exact this)
          have HG := Lib.hid (show rootG (nc (r1, r2)) (rootsL L i) k = subC (nc (catF cs ((k : Int) - 1))) (mulC (nc (r1, r2)) (nc (catF cs k))) by
            unfold rootG; rw [← Hmap.out, catF_map, catF_map])
          have q1 : IntKind.i64.wrap ((k : Int) - 1) = (k : Int) - 1 := IntWalk.i64_in _ ⟨by omega, by omega⟩
          have Hl := Lib.hid (show (cx ts).length ≤ 1099511627776 by simp; omega)
          have j2 : (0 : Int) ≤ (k : Int) := by omega
          have j3 : (k : Int) ≤ (i : Int) + 1 := by omega
          have Hts := Lib.hid hts
          have Hbel2 := Lib.hid hbel2
          clear hts hbel2 htl hcl
          go_wp2
          refine wp_region_v0 14 (GR cs (.slice ao (i + 1) cap2) (mulC (nc (r1, r2)) (nc (catF cs k)))) _ _ (by kernel_rfl) rfl (by kernel_rfl) (fun _ _ _ h => h) (Or.inl ⟨by rfl, fun w => by go_simp; try rfl⟩) ?_
          simp only [List.take_succ_cons, List.take_zero, List.drop_succ_cons, List.drop_zero]
          go_simp
          repeat (apply wpV_det; (exact rfl); (intro nq; go_simp; rfl); (intro K hK; go_simp; refine hK.use ?_; clear hK K))
          (apply wpV_call; (exact rfl); (intro nq; go_simp; first | exact ⟨rfl, rfl⟩ | rfl); (intro nq; refine (TS1.out _).mono ?_; rintro e w' ⟨rfl, rfl⟩; exact ⟨_, rfl, .inl ⟨rfl, _, rfl, rfl⟩, nq, rfl⟩); (rintro u h); (obtain rfl : u = Value.complex .f32 (catF cs ((k : Int) - 1)).1 (catF cs ((k : Int) - 1)).2 := by rcases h with ⟨_, kk, ha, hu⟩ | ⟨h, _⟩; (simp only [Array.mk.injEq, List.cons.injEq, Value.int.injEq, true_and, and_true] at ha; rw [hu, ← ha]); exact absurd h (by decide)); clear h; (intro K hK; go_simp; refine hK.use ?_; clear hK K))
          repeat (apply wpV_det; (exact rfl); (intro nq; go_simp; rfl); (intro K hK; go_simp; refine hK.use ?_; clear hK K))
          (apply wpV_call; (exact rfl); (intro nq; go_simp; first | exact ⟨rfl, rfl⟩ | rfl); (intro nq; refine (TS2.out _).mono ?_; rintro e w' ⟨rfl, rfl⟩; exact ⟨_, rfl, .inl ⟨rfl, _, rfl, rfl⟩, nq, rfl⟩); (rintro u h); (obtain rfl : u = Value.complex .f32 (catF cs (k : Int)).1 (catF cs (k : Int)).2 := by rcases h with ⟨_, kk, ha, hu⟩ | ⟨h, _⟩; (simp only [Array.mk.injEq, List.cons.injEq, Value.int.injEq, true_and, and_true] at ha; rw [hu, ← ha]); exact absurd h (by decide)); clear h; (intro K hK; go_simp; refine hK.use ?_; clear hK K))
          repeat (apply wpV_det; (exact rfl); (intro nq; go_simp; rfl); (intro K hK; go_simp; refine hK.use ?_; clear hK K))
          (apply wpV_call; (exact rfl); (intro nq; go_simp; exact ⟨rfl, rfl⟩); (intro nq; refine (mul_spec (r1, r2) (catF cs k) Hf _).mono ?_; rintro e w' ⟨a, b, mm, rfl, ha, hb, rfl⟩; exact ⟨_, rfl, .inr ⟨rfl, a, b, rfl, Prod.ext ha hb⟩, nq + mm, by simp [Nat.add_assoc]⟩); (rintro u h); (obtain ⟨a1, b1, rfl, hM⟩ : ∃ a b, u = Value.complex .f32 a b ∧ nc (a, b) = mulC (nc (r1, r2)) (nc (catF cs k)) := by rcases h with ⟨h, _⟩ | ⟨_, h⟩; exact absurd h (by decide); exact h); clear h; (intro K hK; go_simp; refine hK.use ?_; clear hK K))
          repeat (apply wpV_det; (exact rfl); (intro nq; go_simp; rfl); (intro K hK; go_simp; refine hK.use ?_; clear hK K))
          (refine wpV_cadd .sub (.inr rfl) _ _ _ _ rfl _ _ _ _ rfl rfl rfl ?_; intro g1 g2 hg1 hg2; (intro K hK; go_simp; refine hK.use ?_; clear hK K))
          have He := Lib.hid (show nc (g1, g2) = rootG (nc (r1, r2)) (rootsL L i) k by rw [HG.out, ← hM]; exact Prod.ext hg1 hg2)
          clear hg1 hg2 hM
          repeat (apply wpV_det; (exact rfl); (intro nq; go_simp; rfl); (intro K hK; go_simp; refine hK.use ?_; clear hK K))
          refine wpV_nil (fun nq => ?_)
          go_wp2_with (at_builtin; go_must (refine wpList_pushV (.complex .f32 0 0) 8 hrow infoC rfl rfl (by decide) rfl _ _ rfl Tryz.underlying25 Hl.out (by omega) rfl rfl rfl rfl rfl rfl ?_); intro v1 w1 hr1 hb1 hg1 ho1)
          go_roundw
          case rel => exact ⟨k + 1, ts ++ [(g1, g2)], by omega, by go_num, by rw [← cx_push]; exact hr1, by rw [List.map_append, Hts.out, range_map_succ, List.map_cons, List.map_nil, He.out], Hbel2.out.trans hb1⟩
          case measure => simp [intOf]; omega
        · obtain rfl : k = i + 2 := by omega
          have Hnext := Lib.hid (show ts.map nc = rootsL L (i + 1) by rw [hts, rootsL_succ, HR.out, rootsL_length])
          have Hrd := Lib.hid hrow.rd
          obtain ⟨ao3, cap3, rfl, _⟩ := hrow.rd.shape
          have Hb := Lib.hid (Hbel.out.trans (hbel2.mono hsz))
          clear hts hrow hbel2
          go_wp2
          go_roundw
          case rel => exact ⟨i + 1, ts, by omega, by go_num, Hrd.out, Hnext.out, Hb.out⟩
          case measure => simp [intOf]; omega
    · obtain rfl : i = N := by omega
      go_wp2
      go_ret
      exact ⟨_, cs, rfl, hmap, hcs, hbel⟩

end Go.Proofs.YtfnhddaofllniaaGreat
