/- FnExactFamilySum returns true for all arguments. Conditions: none. -/
import Derived.Test.YtcbaanidbkjmcaaFamSum
namespace Go.Proofs.Ytcbaanidbkjmcaa
open Go Go.RowKit

set_option maxRecDepth 100000 in
theorem law_FamilySum (kind : Int) (v : Value) (rs : List Nat) (x : Nat) (w : World) (_ : -9223372036854775808 ≤ kind) (_ : kind ≤ 9223372036854775807) (hv : RdF w v rs) (hl : rs.length ≤ 9223372036854775807) :
    Calls Try.prog 5 #[.int .i64 kind, v, .float .f32 x] w fun e w' => e = .returned (.bool true) ∧ Below w.heap.size w w' := by
  have Hv := Lib.hid hv
  obtain ⟨ao, cap, rfl, hc⟩ := hv
  clear hc
  by_cases hbig : 1048576 < (rs.length : Int)
  · go_enter Try.func5, Try.ntmps5
    go_wp2_with fail
    go_ret
    exact ⟨rfl, Below.refl _ _⟩
  · have hl1 : rs.length ≤ 1099511627776 := by omega
    go_enter Try.func5, Try.ntmps5
    go_wp2_with fail
    refine (copy_floats _ rs _ Hv.out hl1).mono ?_
    rintro e w1 ⟨u1, rfl, o1, b1⟩
    go_wp2_with fail
    refine (familySum_spec _ _ rs _ _ (ownsRow_rd o1) hl1).mono ?_
    rintro e w2 ⟨r, m2, rfl, hr, rfl⟩
    have Hr := Lib.hid hr
    clear hr
    have Hv2 := Lib.hid (show RdF w1 _ rs from rd_below Hv.out b1)
    go_wp2_with fail
    refine (copy_floats _ rs _ (by exact Hv2.out) hl1).mono ?_
    rintro e w3 ⟨u3, rfl, o3, b3⟩
    go_wp2_with fail
    refine (familySum_impl _ _ rs _ _ (ownsRow_rd o3) hl1).mono ?_
    rintro e w4 ⟨s, m4, rfl, hs, rfl⟩
    have hrs : nrm .f32 s = nrm .f32 r := by rw [hs, Hr.out]
    clear hs
    have Bel := Lib.hid (show Below w.heap.size w w3 from b1.trans ((below_un b3).mono b1.size))
    have O3 := Lib.hid o3
    clear b1 b3 o1 o3
    generalize (familySumF kind (rs.map (nrm .f32)) (nrm .f32 x)).2 = ok at *
    go_wp2_with (first | ((with_reducible refine wpList_fcvtg _ _ _ rfl .f32 .f64 _ ?_ Try.underlying26 rfl (fits_widen _) ?_ ?_); (rw [Try.underlying22]; rfl); exact rfl; intro r m hr) | (go_at_call 13; refine (sameFloat_true _ _ _ (by simp only [*])).mono ?_; rintro e w' ⟨m, rfl, rfl⟩))
    have Hv3 := Lib.hid (rd_below Hv.out Bel.out)
    refine (copy_floats _ rs _ (by exact Hv3.out) hl1).mono ?_
    rintro e w5 ⟨u5, rfl, o5, b5⟩
    have O5 := Lib.hid (ownsRow_below O3.out (below_un b5))
    go_wp2_with fail
    refine (eqF32_true _ _ rs rs _ (ownsRow_rd O5.out) (ownsRow_rd o5) rfl hl1).mono ?_
    rintro e w6 ⟨m6, rfl, rfl⟩
    have Bel2 := Lib.hid (show Below w.heap.size w (w5.drewN m6) from below_drewN (Bel.out.trans ((below_un b5).mono Bel.out.size)) _)
    clear b5 o5
    go_wp2_with fail
    go_ret
    exact ⟨rfl, Bel2.out⟩

end Go.Proofs.Ytcbaanidbkjmcaa
