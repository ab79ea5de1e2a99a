/- FnExactRoundFit returns true for all arguments. Conditions: none. -/
import Derived.Test.YtcbaanidbkjmcaaFit
import Derived.Test.YtcbaanidbkjmcaaLawRow
import Derived.Test.YtcbaanidbkjmcaaFamSum
namespace Go.Proofs.Ytcbaanidbkjmcaa
open Go Go.RowKit

set_option maxRecDepth 100000 in
theorem law_RoundFit  (v : Value) (rs : List Nat)  (w : World)  (hv : RdF w v rs) (hl : rs.length ≤ 9223372036854775807)  :
    Calls Try.prog 9 #[v] w fun e w' => e = .returned (.bool true) ∧ Below w.heap.size w w' := by
  have Hv := Lib.hid hv
  obtain ⟨ao, cap, rfl, hc⟩ := hv
  clear hc
  by_cases hbig : 1048576 < (rs.length : Int)
  · go_enter Try.func9, Try.ntmps9
    go_wp2_with fail
    go_ret
    exact ⟨rfl, Below.refl _ _⟩
  · have hl1 : rs.length ≤ 1099511627776 := by omega
    have Hle := Lib.hid (show (fitF  (rs.map (nrm .f32)) ).1.length ≤ 1048576 from (fitF_le _))
    go_enter Try.func9, Try.ntmps9
    go_wp2_with fail
    refine (copy_floats _ rs _ Hv.out hl1).mono ?_
    rintro e w1 ⟨u1, rfl, o1, b1⟩
    go_wp2_with fail
    refine (fit_spec  _ rs  _ (ownsRow_rd o1) hl1).mono ?_
    rintro e w2 ⟨u2, ws, rfl, hws, o2, b2⟩
    have Hws := Lib.hid hws
    clear hws
    have B2 := Lib.hid (b1.trans (b2.mono b1.size))
    have Hv2 := Lib.hid (rd_below Hv.out B2.out)
    go_wp2_with fail
    refine (copy_floats _ rs _ Hv2.out hl1).mono ?_
    rintro e w3 ⟨u3, rfl, o3, b3⟩
    go_wp2_with fail
    refine (fit_impl  _ rs  _ (ownsRow_rd o3) hl1).mono ?_
    rintro e w4 ⟨u4, gs, rfl, hgs, o4, b4⟩
    have Hgs := Lib.hid hgs
    clear hgs
    have B3 := Lib.hid (B2.out.trans (b3.mono B2.out.size))
    have B4 := Lib.hid (B3.out.trans (b4.mono B3.out.size))
    have O3 := Lib.hid (ownsRow_below o3 b4)
    have O2 := Lib.hid (ownsRow_below (ownsRow_below o2 b3) b4)
    have O4 := Lib.hid o4
    have A32 := Lib.hid (blocks_apart o2 o3)
    have A43 := Lib.hid (blocks_apart o3 o4)
    have A42 := Lib.hid (blocks_apart (ownsRow_below o2 b3) o4)
    have L2 := Lib.hid (show ws.length ≤ 1048576 by rw [← List.length_map (f := nrm .f32), Hws.out]; exact Hle.out)
    have L4 := Lib.hid (show gs.length ≤ 1048576 by rw [← List.length_map (f := nrm .f32), Hgs.out]; exact Hle.out)
    have S3 := Lib.hid (fun q h => (o3.lt q h).1)
    have S4 := Lib.hid (fun q h => (o4.lt q h).1)
    clear o1 o2 o3 o4 b1 b2 b3 b4
    generalize hok : (fitF  (rs.map (nrm .f32)) ).2 = ok at *
    have Hok := Lib.hid hok
    clear hok
    go_wp2_with fail
    refine (eqF32_true _ _ gs ws _ (ownsRow_rd O4.out) (ownsRow_rd O2.out) (by rw [Hgs.out, Hws.out]) (by have := L4.out; omega)).mono ?_
    rintro e w5 ⟨m5, rfl, rfl⟩
    have Hv4 := Lib.hid (rd_below Hv.out B4.out)
    go_wp2_with fail
    refine (copy_floats _ rs _ (by exact Hv4.out) hl1).mono ?_
    rintro e w6 ⟨u6, rfl, o6, b6⟩
    have B6 := Lib.hid (B4.out.trans ((below_un b6).mono B4.out.size))
    have O36 := Lib.hid (ownsRow_below O3.out (below_un b6))
    have O26 := Lib.hid (ownsRow_below O2.out (below_un b6))
    have O46 := Lib.hid (ownsRow_below O4.out (below_un b6))
    have O66 := Lib.hid o6
    clear b6 o6
    go_wp2_with fail
    refine (eqF32_true _ _ rs rs _ (ownsRow_rd O36.out) (ownsRow_rd O66.out) rfl hl1).mono ?_
    rintro e w7 ⟨m7, rfl, rfl⟩
    go_wp2_with fail
    refine (mark_floats _ _ _ _ _ _ (by exact O36.out) hl1 (by omega) (by omega)).mono ?_
    rintro e w8 ⟨ys, rfl, _, hm8, hg8⟩
    have O48 := Lib.hid (show w8.ownsRow _ _ _ _ _ _ from World.ownsRow.kept (w := w6.drewN m7) O46.out hg8 (by
      rcases A43.out with h | h
      · rw [h]
        cases hv : u4.ownBlock with
        | none => exact .inl rfl
        | some q => exact .inr (by simp)
      · exact .inr (Ne.symm h)))
    have O28 := Lib.hid (show w8.ownsRow _ _ _ _ _ _ from World.ownsRow.kept (w := w6.drewN m7) O26.out hg8 A32.out)
    have B8 := Lib.hid (show Below w.heap.size w w8 from B6.out.trans ⟨hg8.os, hg8.tape, hg8.output, hg8.size, fun k hk => hg8.block k (show k < (w6.drewN m7).heap.size from Nat.lt_of_lt_of_le hk B6.out.size) (fun e => by
      have h1 := S3.out k e.symm
      have h2 := B2.out.size
      omega)⟩)
    clear hm8 hg8
    have j8 : (rs.length : Int) ≤ 1048576 := by omega
    go_wp2_with fail
    refine (eqF32_true _ _ gs ws _ (ownsRow_rd O48.out) (ownsRow_rd O28.out) (by rw [Hgs.out, Hws.out]) (by have := L4.out; omega)).mono ?_
    rintro e w9 ⟨m9, rfl, rfl⟩
    go_wp2_with fail
    refine (mark_floats _ _ _ _ _ _ (by exact O48.out) (by have := L4.out; omega) (by omega) (by omega)).mono ?_
    rintro e w10 ⟨zs, rfl, o10, hm10, hg10⟩
    have M10 := Lib.hid hm10
    have O210 := Lib.hid (show w10.ownsRow _ _ _ _ _ _ from World.ownsRow.kept (w := w8.drewN m9) O28.out hg10 A42.out)
    have B10 := Lib.hid (show Below w.heap.size w w10 from B8.out.trans ⟨hg10.os, hg10.tape, hg10.output, hg10.size, fun k hk => hg10.block k (show k < (w8.drewN m9).heap.size from Nat.lt_of_lt_of_le hk B8.out.size) (fun e => by
      have h1 := S4.out k e.symm
      have h2 := B3.out.size
      omega)⟩)
    have O10 := Lib.hid o10
    have j10 : (gs.length : Int) ≤ 1048576 := by have := L4.out; omega
    clear o10 hm10 hg10
    go_wp2_with fail
    refine (held_floats _ _ _ zs _ _ O10.out M10.out (by have := L4.out; omega) (by omega) (by omega)).mono ?_
    rintro e w' ⟨rfl, rfl⟩
    have Hv10 := Lib.hid (rd_below Hv.out B10.out)
    go_wp2_with fail
    refine (copy_floats _ rs _ Hv10.out hl1).mono ?_
    rintro e w11 ⟨u11, rfl, o11, b11⟩
    have B11 := Lib.hid (B10.out.trans (b11.mono B10.out.size))
    have O1011 := Lib.hid (ownsRow_below O10.out b11)
    have O211 := Lib.hid (ownsRow_below O210.out b11)
    have O11 := Lib.hid o11
    clear o11 b11
    go_wp2_with fail
    refine (fit_impl  _ rs  _ (ownsRow_rd O11.out) hl1).mono ?_
    rintro e w12 ⟨u12, ts, rfl, hts, o12, b12⟩
    have Hts := Lib.hid hts
    have L12 := Lib.hid (show ts.length ≤ 1048576 by rw [← List.length_map (f := nrm .f32), hts]; exact Hle.out)
    have B12 := Lib.hid (B11.out.trans (b12.mono B11.out.size))
    have O1012 := Lib.hid (ownsRow_below O1011.out b12)
    have O212 := Lib.hid (ownsRow_below O211.out b12)
    have O12 := Lib.hid o12
    clear o12 b12 hts
    rw [Hok.out]
    go_wp2_with fail
    refine (eqF32_true _ _ ts ws _ (ownsRow_rd O12.out) (ownsRow_rd O212.out) (by rw [Hts.out, Hws.out]) (by have := L12.out; omega)).mono ?_
    rintro e w13 ⟨m13, rfl, rfl⟩
    go_wp2_with fail
    refine (held_floats _ _ _ zs _ _ (by exact O1012.out) M10.out (by have := L4.out; omega) (by omega) (by omega)).mono ?_
    rintro e w' ⟨rfl, rfl⟩
    go_wp2_with fail
    go_ret
    exact ⟨rfl, below_drewN B12.out _⟩

end Go.Proofs.Ytcbaanidbkjmcaa
