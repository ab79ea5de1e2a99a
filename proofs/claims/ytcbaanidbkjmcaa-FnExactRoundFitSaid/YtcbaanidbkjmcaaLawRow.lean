/- FnExactFamilyRow returns true for all arguments. Conditions: none. -/
import Derived.Test.YtcbaanidbkjmcaaMark
import Derived.Test.YtcbaanidbkjmcaaFamAt
namespace Go.Proofs.Ytcbaanidbkjmcaa
open Go Go.RowKit

theorem familyRowF_le (kind n : Int) (x : Nat) : (familyRowF kind n x).1.length ≤ 17 := by
  unfold familyRowF
  split
  · rename_i h
    have h1 := h.1
    simp only [familyOk, Bool.and_eq_true] at h1
    have := kindB_bound h1.1
    simp only [rowS_length]; omega
  · simp

/-- Two new rows lie apart. -/
theorem blocks_apart {w1 w2 : World} {B e size : Nat} {u v : Value} {n m : Nat} {xs ys : List Value} (hu : w1.ownsRow B e size u n xs) (hv : w2.ownsRow w1.heap.size e size v m ys) : u.ownBlock = none ∨ u.ownBlock ≠ v.ownBlock := by
  cases h : u.ownBlock with
  | none => exact .inl rfl
  | some g =>
    refine .inr fun h2 => ?_
    have h3 := hu.lt g h
    have h4 := hv.lt g h2.symm
    omega

set_option maxRecDepth 100000 in
theorem law_FamilyRow (kind n : Int) (x : Nat) (w : World) (_ : -9223372036854775808 ≤ kind) (_ : kind ≤ 9223372036854775807) (_ : -9223372036854775808 ≤ n) (_ : n ≤ 9223372036854775807) :
    Calls Try.prog 6 #[.int .i64 kind, .int .i64 n, .float .f32 x] w fun e w' => e = .returned (.bool true) ∧ Below w.heap.size w w' := by
  have H1 := Lib.hid (familyRow_spec kind n x w)
  have H2 := Lib.hid fun w1 => familyRow_impl kind n x w1
  have Hle := Lib.hid (familyRowF_le kind n (nrm .f32 x))
  go_enter Try.func6, Try.ntmps6
  go_wp2_with fail
  refine H1.out.mono ?_
  rintro e w1 ⟨u, rs, rfl, hrs, hown1, hb1⟩
  have Hrs := Lib.hid hrs
  clear hrs
  go_wp2_with fail
  refine (H2.out _).mono ?_
  rintro e w2 ⟨v, ss, rfl, hss, hown2, hb2⟩
  have Hss := Lib.hid hss
  clear hss
  have Hlen := Lib.hid (show rs.length ≤ 17 by rw [← List.length_map (f := nrm .f32), Hrs.out]; exact Hle.out)
  have Hlen2 := Lib.hid (show ss.length ≤ 17 by rw [← List.length_map (f := nrm .f32), Hss.out]; exact Hle.out)
  generalize hok : (familyRowF kind n (nrm .f32 x)).2 = ok at *
  have Hok := Lib.hid hok
  clear hok
  have O1 := Lib.hid (ownsRow_below hown1 hb2)
  have AP := Lib.hid (blocks_apart hown1 hown2)
  go_wp2_with fail
  refine (eqF32_true _ _ ss rs _ (ownsRow_rd hown2) (ownsRow_rd O1.out) (by rw [Hss.out, Hrs.out]) (by have := Hlen2.out; omega)).mono ?_
  rintro e w3 ⟨m3, rfl, rfl⟩
  go_wp2_with fail
  refine (mark_floats w1.heap.size _ v _ _ _ (show World.ownsRow (w2.drewN m3) _ _ _ _ _ _ from hown2) (by have := Hlen2.out; omega) (by omega) (by omega)).mono ?_
  rintro e w4 ⟨ys, rfl, hown4, hm4, hg4⟩
  have O4 := Lib.hid (show w4.ownsRow w.heap.size 22 1 u rs.length (rs.map (Value.float .f32)) from World.ownsRow.kept (w := w2.drewN m3) O1.out hg4 AP.out)
  have B4 := Lib.hid (show Below w.heap.size w w4 from (hb1.trans (hb2.mono hb1.size)).trans ⟨hg4.os, hg4.tape, hg4.output, hg4.size, fun k hk => hg4.block k (show k < (w2.drewN m3).heap.size from Nat.lt_of_lt_of_le hk (Nat.le_trans hb1.size hb2.size)) (fun e => by
    have h1 := (hown2.lt k e.symm).1
    have h2 := hb1.size
    omega)⟩)
  have M4 := Lib.hid hm4
  clear hb1 hb2 hg4 hm4 hown1 hown2
  go_wp2_with fail
  refine (held_floats w1.heap.size _ v ys _ _ hown4 M4.out (by have := Hlen2.out; omega) (by omega) (by omega)).mono ?_
  rintro e w' ⟨rfl, rfl⟩
  have j1 : (ss.length : Int) ≤ 17 := by have := Hlen2.out; omega
  go_wp2_with fail
  refine (H2.out _).mono ?_
  rintro e w5 ⟨h, ts, rfl, hts, hown5, hb5⟩
  have Hts := Lib.hid hts
  clear hts
  have Hlen3 := Lib.hid (show ts.length ≤ 17 by rw [← List.length_map (f := nrm .f32), Hts.out]; exact Hle.out)
  have O5 := Lib.hid (ownsRow_below O4.out hb5)
  have O6 := Lib.hid (ownsRow_below hown4 hb5)
  have B5 := Lib.hid (B4.out.trans (hb5.mono B4.out.size))
  clear hb5
  rw [Hok.out]
  go_wp2_with fail
  refine (eqF32_true _ _ ts rs _ (ownsRow_rd hown5) (ownsRow_rd O5.out) (by rw [Hts.out, Hrs.out]) (by have := Hlen3.out; omega)).mono ?_
  rintro e w6 ⟨m6, rfl, rfl⟩
  go_wp2_with fail
  refine (held_floats w1.heap.size _ v ys _ _ (show World.ownsRow (w5.drewN m6) _ _ _ _ _ _ from O6.out) M4.out (by have := Hlen2.out; omega) (by omega) (by omega)).mono ?_
  rintro e w' ⟨rfl, rfl⟩
  go_wp2_with fail
  go_ret
  exact ⟨rfl, below_drewN B5.out _⟩

end Go.Proofs.Ytcbaanidbkjmcaa
