/- FnExactFamilyPoly returns true for all arguments. Conditions: none. -/
import Derived.Test.YtfamcgibcnldlaaPH
import Derived.Test.YtfamcgibcnldlaaPE
namespace Go.Proofs.Ytfamcgibcnldlaa
open Go Go.RowKit
set_option linter.unusedSimpArgs false
set_option linter.unusedVariables false

set_option maxRecDepth 100000 in
theorem eq_poly (u v : Value) (rs ss : List Nat) (w : World) (hu : RdV w u (cx rs)) (hv : RdV w v (cx ss)) (h : rs.map (nrm .f32) = ss.map (nrm .f32)) (hl : rs.length ≤ 1099511627776) :
    Calls Try.prog 16 #[.agg #[u], .agg #[v]] w (RB true w) := by
  have Hh := Lib.hid h
  obtain ⟨ao1, cap1, rfl, _⟩ := hu.shape
  obtain ⟨ao2, cap2, rfl, _⟩ := hv.shape
  simp only [cx_length] at hu hv ⊢
  have Hu := Lib.hid hu
  have Hv := Lib.hid hv
  clear hu hv h
  go_enter Try.func16, Try.ntmps16
  go_wp2_with fail
  (go_at_call 35; ((with_reducible refine (eqC_true _ _ rs ss _ ((Hu.out.alloc _).alloc _) ((Hv.out.alloc _).alloc _) Hh.out hl).mono ?_); rintro e w' ⟨m, rfl, rfl⟩))
  go_wp2_with fail
  go_ret
  exact ⟨rfl, below_drewN (((Below.refl _ _).alloc (Nat.le_refl _) _).alloc (by simp) _) _⟩

theorem grown_alloc {w w' : World} {o : Obj} {row : Option Nat} (h : (w.alloc o).grownBy w' row) : w.grownBy w' row :=
  ⟨h.os, h.tape, h.output, Nat.le_trans (by simp) h.size, fun k hk hne => by rw [h.block k (by simp; omega) hne]; exact heap_alloc_old w o hk⟩

set_option maxRecDepth 100000 in
theorem mark_poly (B : Nat) (v : Value) (xs : List Value) (k : Nat) (w : World) (hown : OwV 59 w B v xs) (hn : xs.length ≤ 17) (hk : k ≤ 8) :
    Calls Try.prog 17 #[.agg #[v], .int .i64 k] w fun e w' => ∃ ys, e = .returned (.int .i64 (k + xs.length)) ∧ OwV 59 w' B v ys ∧ ys.length = xs.length ∧ MarkedC k xs.length ys ∧ w.grownBy w' v.ownBlock := by
  obtain ⟨ao, cap, rfl, _⟩ := hown.rd.shape
  have Ho := Lib.hid hown
  clear hown
  go_enter Try.func17, Try.ntmps17
  go_wp2_with fail
  (go_at_call 36; ((with_reducible refine (mark_complex B _ xs k _ (Ho.out.below ((Below.refl _ _).alloc (Nat.le_refl _) _)) hn hk).mono ?_); rintro e w' ⟨ys, rfl, ho2, hlen, hm, hg⟩))
  have Hm := Lib.hid hm
  have Hlen := Lib.hid hlen
  clear hm hlen
  go_wp2_with fail
  go_ret
  exact ⟨ys, rfl, ho2, Hlen.out, Hm.out, grown_alloc hg⟩

set_option maxRecDepth 100000 in
theorem held_poly (B : Nat) (v : Value) (ys : List Value) (k : Nat) (w : World) (hown : OwV 59 w B v ys) (hm : MarkedC k ys.length ys) (hn : ys.length ≤ 17) (hk : k ≤ 8) :
    Calls Try.prog 18 #[.agg #[v], .int .i64 k] w fun e w' => e = .returned (.int .i64 (k + ys.length)) ∧ Below w.heap.size w w' := by
  obtain ⟨ao, cap, rfl, _⟩ := hown.rd.shape
  have Ho := Lib.hid hown
  have Hm := Lib.hid hm
  clear hown hm
  have h0 : ¬ ((k : Int) + (ys.length : Int) < 0) := by omega
  go_enter Try.func18, Try.ntmps18
  go_wp2_with fail
  (go_at_call 37; ((with_reducible refine (held_complex B _ ys k _ (Ho.out.below ((Below.refl _ _).alloc (Nat.le_refl _) _)) Hm.out hn hk).mono ?_); rintro e w' ⟨rfl, rfl⟩))
  go_wp2_with fail
  go_ret
  exact ⟨rfl, (Below.refl _ _).alloc (Nat.le_refl _) _⟩

theorem mark_poly1 (B : Nat) (v : Value) (xs : List Value) (w : World) (hown : OwV 59 w B v xs) (hn : xs.length ≤ 17) :
    Calls Try.prog 17 #[.agg #[v], .int .i64 1] w fun e w' => ∃ ys, e = .returned (.int .i64 (1 + xs.length)) ∧ OwV 59 w' B v ys ∧ ys.length = xs.length ∧ MarkedC 1 xs.length ys ∧ w.grownBy w' v.ownBlock := mark_poly B v xs 1 w hown hn (by decide)
theorem held_poly1 (B : Nat) (v : Value) (ys : List Value) (w : World) (hown : OwV 59 w B v ys) (hm : MarkedC 1 ys.length ys) (hn : ys.length ≤ 17) :
    Calls Try.prog 18 #[.agg #[v], .int .i64 1] w fun e w' => e = .returned (.int .i64 (1 + ys.length)) ∧ Below w.heap.size w w' := held_poly B v ys 1 w hown hm hn (by decide)

set_option maxRecDepth 100000 in
set_option maxHeartbeats 4000000 in
theorem law_FamilyPoly (kind n : Int) (w : World) (_ : -9223372036854775808 ≤ kind) (_ : kind ≤ 9223372036854775807) (_ : -9223372036854775808 ≤ n) (_ : n ≤ 9223372036854775807) :
    Calls Try.prog 5 #[.int .i64 kind, .int .i64 n] w fun e w' => e = .returned (.bool true) ∧ Below w.heap.size w w' := by
  have H1 := Lib.hid (familyPoly_spec kind n w)
  have H2 := Lib.hid fun w1 => familyPoly_impl kind n w1
  have Hle := Lib.hid (familyPolyF_le kind n)
  generalize familyPolyF kind n = F at *
  go_enter Try.func5, Try.ntmps5
  go_wp2_with fail
  refine H1.out.mono ?_
  rintro e w1 ⟨u, rs, rfl, hrs, ho1, hb1⟩
  have Hrs := Lib.hid hrs
  have Hl1 := Lib.hid (show rs.length ≤ 17 by rw [← List.length_map (f := nrm .f32), Hrs.out]; exact Hle.out)
  obtain ⟨ao1, cap1, rfl, _⟩ := ho1.rd.shape
  simp only [cx_length] at ho1 ⊢
  have U := Lib.hid ho1
  have UL := Lib.hid ho1.lt
  have z1 := hb1.size
  have BB := Lib.hid hb1
  clear hrs ho1 hb1
  go_wp2_with fail
  refine (H2.out _).mono ?_
  rintro e w2 ⟨v, ss, rfl, hss, ho2, hb2⟩
  have Hss := Lib.hid hss
  have Hl2 := Lib.hid (show ss.length ≤ 17 by rw [← List.length_map (f := nrm .f32), Hss.out]; exact Hle.out)
  obtain ⟨ao2, cap2, rfl, _⟩ := ho2.rd.shape
  simp only [cx_length, World.size_alloc] at ho2 ⊢
  have x5 := (hb2.cell (p := ⟨w1.heap.size, 0, none⟩) (by simp)).trans (World.cell?_alloc_new w1 #[.slice ao1 rs.length cap1] 36 0)
  replace U := Lib.hid ((U.out.below ((Below.refl _ _).alloc (Nat.le_refl _) _)).below hb2)
  have VV := Lib.hid ho2
  have VL := Lib.hid ho2.lt
  have z2 : w1.heap.size + 1 ≤ w2.heap.size := by have := hb2.size; simpa using this
  have l5 : w1.heap.size < w2.heap.size := by omega
  replace BB := Lib.hid (show Below w.heap.size w w2 from (BB.out.alloc BB.out.size _).trans (hb2.mono (by have := BB.out.size; simp; omega)))
  clear hss ho2 hb2
  go_wp2_with fail
  (go_at_call 16; ((with_reducible refine (eq_poly _ _ ss rs _ (VV.out.rd.alloc _) (U.out.rd.alloc _) (by rw [Hss.out, Hrs.out]) (by have := Hl2.out; omega)).mono ?_); rintro e w3 ⟨rfl, hb3⟩))
  have x7 := (hb3.cell (p := ⟨w2.heap.size, 0, none⟩) (by simp)).trans (World.cell?_alloc_new w2 #[.slice ao2 ss.length cap2] 36 0)
  replace x5 := ((hb3.cell (p := ⟨w1.heap.size, 0, none⟩) (by simp; omega)).trans (((Below.refl w2.heap.size w2).alloc (Nat.le_refl _) _).cell (p := ⟨w1.heap.size, 0, none⟩) (by simp only; omega))).trans x5
  replace U := Lib.hid ((U.out.below ((Below.refl _ _).alloc (Nat.le_refl _) _)).below hb3)
  replace VV := Lib.hid ((VV.out.below ((Below.refl _ _).alloc (Nat.le_refl _) _)).below hb3)
  have z3 : w2.heap.size + 1 ≤ w3.heap.size := by have := hb3.size; simpa using this
  replace BB := Lib.hid (show Below w.heap.size w w3 from (BB.out.alloc BB.out.size _).trans (hb3.mono (by have := BB.out.size; simp; omega)))
  replace l5 : w1.heap.size < w3.heap.size := by omega
  have l7 : w2.heap.size < w3.heap.size := by omega
  clear hb3
  go_wp2_with fail
  (go_at_call 17; ((with_reducible refine (mark_poly1 _ _ _ _ VV.out (by have := Hl2.out; simpa using this)).mono ?_); rintro e w4 ⟨ys, rfl, ho4, hyl, hm4, hg4⟩))
  simp only [cx_length] at hyl hm4 ⊢
  have Hyl := Lib.hid hyl
  have M4 := Lib.hid (show MarkedC 1 ys.length ys by rw [hyl]; exact hm4)
  replace x5 := (World.cell?_of_block (w := w3) (w' := w4) (a := ⟨w1.heap.size, 0, none⟩) (hg4.block _ l5 (fun e => by have := VL.out w1.heap.size e.symm; omega))).trans x5
  replace x7 := (World.cell?_of_block (w := w3) (w' := w4) (a := ⟨w2.heap.size, 0, none⟩) (hg4.block _ l7 (fun e => by have := VL.out w2.heap.size e.symm; omega))).trans x7
  replace U := Lib.hid (U.out.kept hg4 (by
    cases h : Value.ownBlock (.slice ao1 rs.length cap1) with
    | none => exact .inl rfl
    | some g =>
      right
      intro e
      have a := UL.out _ h
      have b := VL.out _ e.symm
      omega))
  replace VV := Lib.hid ho4
  replace BB := Lib.hid (show Below w.heap.size w w4 from BB.out.grown hg4 BB.out.size (fun k hk => by have := VL.out k hk; omega))
  have z4 := hg4.size
  replace l5 : w1.heap.size < w4.heap.size := by omega
  replace l7 : w2.heap.size < w4.heap.size := by omega
  have j0 : ¬ ((1 : Int) + (ss.length : Int) < 0) := by omega
  clear ho4 hyl hm4 hg4 VL UL
  go_wp2_with fail
  (go_at_call 18; ((with_reducible refine (held_poly1 _ _ ys _ VV.out M4.out (by rw [Hyl.out]; exact Hl2.out)).mono ?_); rintro e w5 ⟨rfl, hb5⟩))
  rw [Hyl.out]
  replace x5 := (hb5.cell (p := ⟨w1.heap.size, 0, none⟩) l5).trans x5
  replace x7 := (hb5.cell (p := ⟨w2.heap.size, 0, none⟩) l7).trans x7
  replace U := Lib.hid (U.out.below hb5)
  replace VV := Lib.hid (VV.out.below hb5)
  have z5 := hb5.size
  replace l5 : w1.heap.size < w5.heap.size := by omega
  replace l7 : w2.heap.size < w5.heap.size := by omega
  replace BB := Lib.hid (show Below w.heap.size w w5 from BB.out.trans (hb5.mono BB.out.size))
  clear hb5
  go_wp2_with fail
  refine (H2.out _).mono ?_
  rintro e w6 ⟨h, ts, rfl, hts, ho6, hb6⟩
  have Hts := Lib.hid hts
  have Hl3 := Lib.hid (show ts.length ≤ 17 by rw [← List.length_map (f := nrm .f32), Hts.out]; exact Hle.out)
  obtain ⟨ao3, cap3, rfl, _⟩ := ho6.rd.shape
  simp only [cx_length] at ho6 ⊢
  have T := Lib.hid ho6
  replace x5 := (hb6.cell (p := ⟨w1.heap.size, 0, none⟩) l5).trans x5
  replace x7 := (hb6.cell (p := ⟨w2.heap.size, 0, none⟩) l7).trans x7
  replace U := Lib.hid (U.out.below hb6)
  replace VV := Lib.hid (VV.out.below hb6)
  have z6 := hb6.size
  replace l5 : w1.heap.size < w6.heap.size := by omega
  replace l7 : w2.heap.size < w6.heap.size := by omega
  replace BB := Lib.hid (show Below w.heap.size w w6 from BB.out.trans (hb6.mono BB.out.size))
  clear hts ho6 hb6
  go_wp2_with fail
  (go_at_call 16; ((with_reducible refine (eq_poly _ _ ts rs _ (T.out.rd.alloc _) (U.out.rd.alloc _) (by rw [Hts.out, Hrs.out]) (by have := Hl3.out; omega)).mono ?_); rintro e w7 ⟨rfl, hb7⟩))
  replace x7 := ((hb7.cell (p := ⟨w2.heap.size, 0, none⟩) (by simp; omega)).trans (((Below.refl w6.heap.size w6).alloc (Nat.le_refl _) _).cell (p := ⟨w2.heap.size, 0, none⟩) (by simp only; omega))).trans x7
  replace VV := Lib.hid ((VV.out.below ((Below.refl _ _).alloc (Nat.le_refl _) _)).below hb7)
  have z7 : w6.heap.size + 1 ≤ w7.heap.size := by have := hb7.size; simpa using this
  replace l7 : w2.heap.size < w7.heap.size := by omega
  replace BB := Lib.hid (show Below w.heap.size w w7 from (BB.out.alloc BB.out.size _).trans (hb7.mono (by have := BB.out.size; simp; omega)))
  clear hb7 x5 U T
  go_wp2_with fail
  (go_at_call 18; ((with_reducible refine (held_poly1 _ _ ys _ VV.out M4.out (by rw [Hyl.out]; exact Hl2.out)).mono ?_); rintro e w8 ⟨rfl, hb8⟩))
  rw [Hyl.out]
  replace BB := Lib.hid (show Below w.heap.size w w8 from BB.out.trans (hb8.mono BB.out.size))
  clear hb8
  go_wp2_with fail
  go_ret
  exact ⟨rfl, BB.out⟩

end Go.Proofs.Ytfamcgibcnldlaa
