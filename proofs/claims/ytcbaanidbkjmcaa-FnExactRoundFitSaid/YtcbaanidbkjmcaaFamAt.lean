/- FnExactFamilyAt and FnExactFamilyRow return true for all arguments. Conditions: none. -/
import Derived.Test.YtcbaanidbkjmcaaFinite
namespace Go.Proofs.Ytcbaanidbkjmcaa
open Go Go.RowKit

/-- The value of a polynomial of a family, if all is finite. -/
def familyAtF (kind n : Int) (x : Nat) : Nat × Bool :=
  if familyOk kind n x = true ∧ ((rowS kind x n.toNat).1.all finF) = true then ((rowS kind x n.toNat).1.getD n.toNat 0, true) else (nrm .f32 0, false)

theorem rd_cell {w : World} {v : Value} {rs : List Nat} (h : RdF w v rs) {n : Nat} (hn : n < rs.length) : ∃ b off cap, v = .slice (some ⟨b, off, none⟩) rs.length cap ∧ w.cell? ⟨b, off + n, none⟩ = some (.float .f32 (rs.getD n 0)) := by
  obtain ⟨ao, cap, rfl, hr⟩ := h
  rcases hr with rfl | ⟨b, off, rfl, hc⟩
  · simp at hn
  · exact ⟨b, off, cap, rfl, by rw [hc n hn]; simp [List.getD, hn]⟩

set_option maxRecDepth 100000 in
theorem familyAt_spec (kind n : Int) (x : Nat) (w : World) :
    Calls Try.prog 14 #[.int .i64 kind, .int .i64 n, .float .f32 x] w (RetNumB (familyAtF kind n (nrm .f32 x)).1 (familyAtF kind n (nrm .f32 x)).2 w) := by
  have hr := familyRow_spec kind n x w
  have Hr := Lib.hid hr
  clear hr
  go_enter Try.func14, Try.ntmps14
  go_wp2_with fail
  refine Hr.out.mono ?_
  rintro e w1 ⟨v, rs, rfl, hrs, hown, hbel⟩
  by_cases hc : familyOk kind n (nrm .f32 x) = true ∧ ((rowS kind (nrm .f32 x) n.toNat).1.all finF) = true
  · have H1 := Lib.hid (show familyRowF kind n (nrm .f32 x) = ((rowS kind (nrm .f32 x) n.toNat).1, true) by simp [familyRowF, hc])
    have H2 := Lib.hid (show familyAtF kind n (nrm .f32 x) = ((rowS kind (nrm .f32 x) n.toNat).1.getD n.toNat 0, true) by simp [familyAtF, hc])
    obtain ⟨h0, h1⟩ := kindB_bound (show kindB kind n = true by have := hc.1; simp only [familyOk, Bool.and_eq_true] at this; exact this.1)
    rw [H1.out] at hrs ⊢
    have hlen : n.toNat < rs.length := by rw [← List.length_map (f := nrm .f32), hrs, rowS_length]; omega
    obtain ⟨b, off, cap, rfl, hcell⟩ := rd_cell (ownsRow_rd hown) hlen
    have hy : nrm .f32 (rs.getD n.toNat 0) = (rowS kind (nrm .f32 x) n.toNat).1.getD n.toNat 0 := by
      rw [← hrs]; simp [List.getD, hlen]
    have hl2 : n < (rs.length : Int) := by omega
    have Hrs := Lib.hid hrs
    have Hy := Lib.hid hy
    clear hrs hy hc
    generalize rs.getD n.toNat 0 = y at hcell Hy
    go_wp2
    go_ret2
    rw [H2.out]
    exact ⟨y, rfl, Hy.out, hbel⟩
  · have H1 := Lib.hid (show familyRowF kind n (nrm .f32 x) = ([], false) by simp only [familyRowF, if_neg hc])
    have H2 := Lib.hid (show familyAtF kind n (nrm .f32 x) = (nrm .f32 0, false) by simp only [familyAtF, if_neg hc])
    rw [H1.out]
    clear hc
    go_wp2
    go_ret2
    rw [H2.out]
    exact ⟨_, rfl, rfl, hbel⟩

set_option maxRecDepth 100000 in
theorem familyAt_impl (kind n : Int) (x : Nat) (w : World) :
    Calls Try.prog 15 #[.int .i64 kind, .int .i64 n, .float .f32 x] w (RetNumB (familyAtF kind n (nrm .f32 x)).1 (familyAtF kind n (nrm .f32 x)).2 w) := by
  cases hk : kindB kind n
  · have H := Lib.hid (show familyAtF kind n (nrm .f32 x) = (nrm .f32 0, false) by simp [familyAtF, familyOk, hk])
    go_enter Try.func15, Try.ntmps15
    go_wp2_with (first | (go_at_call 37; refine (isKind_impl _ _ _).mono ?_; rintro e w' ⟨rfl, rfl⟩))
    go_ret2
    rw [H.out]
    exact ⟨_, rfl, rfl, Below.refl _ _⟩
  · cases hf : finF (nrm .f32 x)
    · have H := Lib.hid (show familyAtF kind n (nrm .f32 x) = (nrm .f32 0, false) by simp [familyAtF, familyOk, hf])
      go_enter Try.func15, Try.ntmps15
      go_wp2_with (first | (go_at_call 37; refine (isKind_impl _ _ _).mono ?_; rintro e w' ⟨rfl, rfl⟩) | (go_at_call 39; refine (isFinite_impl _ _).mono ?_; rintro e w' ⟨m, rfl, rfl⟩))
      go_ret2
      rw [H.out]
      exact ⟨_, rfl, rfl, below_drewN (Below.refl _ _) _⟩
    · obtain ⟨h0, h1⟩ := kindB_bound hk
      obtain ⟨n, rfl⟩ := Int.eq_ofNat_of_zero_le h0
      have H : familyAtF kind n (nrm .f32 x) = (numF ((rowS kind (nrm .f32 x) n).1.getD n 0), finF ((rowS kind (nrm .f32 x) n).1.getD n 0)) := by
        simp only [familyAtF, familyOk, hk, hf, Bool.and_self, true_and, Int.toNat_natCast, row_fin, numF]
        cases hb : ((rowS kind (nrm .f32 x) n).1.all finF) <;> simp
      have H := Lib.hid H
      have hr : ∀ m, Calls Try.prog 41 #[.int .i64 kind, .int .i64 n, .float .f32 x] (w.drewN m) (RetRow (rowS kind (nrm .f32 x) n).1 (w.drewN m)) := fun m => row_impl kind n x _ (by omega)
      have Hr := Lib.hid hr
      clear hr
      go_enter Try.func15, Try.ntmps15
      go_wp2_with (first | (go_at_call 37; refine (isKind_impl _ _ _).mono ?_; rintro e w' ⟨rfl, rfl⟩) | (go_at_call 39; refine (isFinite_impl _ _).mono ?_; rintro e w' ⟨m, rfl, rfl⟩))
      refine (Hr.out _).mono ?_
      rintro e w1 ⟨v, rs, rfl, hrs, hown, hbel⟩
      have hlen : rs.length = n + 1 := by rw [← rowS_length kind (nrm .f32 x) n, ← hrs, List.length_map]
      have hln : n < rs.length := by omega
      obtain ⟨b, off, cap, rfl, hcell⟩ := rd_cell (ownsRow_rd hown) hln
      have hy : nrm .f32 (rs.getD n 0) = (rowS kind (nrm .f32 x) n).1.getD n 0 := by
        rw [← hrs]; simp [List.getD, hln]
      have hl2 : (n : Int) < (rs.length : Int) := by omega
      have hl3 : (0 : Int) ≤ (n : Int) := by omega
      have Hrs := Lib.hid hrs
      have Hy := Lib.hid hy
      clear hrs hy hlen
      generalize rs.getD n 0 = y at hcell Hy
      go_wp2_with (first | (go_at_call 40; refine (number_impl _ _).mono ?_; rintro e w' ⟨r, m, rfl, hr, rfl⟩))
      go_ret2
      rw [H.out]
      rw [Hy.out] at hr ⊢
      exact ⟨_, rfl, hr, below_drewN (below_un hbel) _⟩

set_option maxRecDepth 100000 in
theorem law_FamilyAt (kind n : Int) (x : Nat) (w : World) (_ : -9223372036854775808 ≤ kind) (_ : kind ≤ 9223372036854775807) (_ : -9223372036854775808 ≤ n) (_ : n ≤ 9223372036854775807) :
    Calls Try.prog 4 #[.int .i64 kind, .int .i64 n, .float .f32 x] w fun e w' => e = .returned (.bool true) ∧ Below w.heap.size w w' := by
  have H1 := Lib.hid (familyAt_spec kind n x w)
  have H2 := Lib.hid fun w1 => familyAt_impl kind n x w1
  go_enter Try.func4, Try.ntmps4
  go_wp2_with fail
  refine H1.out.mono ?_
  rintro e w1 ⟨r, rfl, hr, hb1⟩
  have Hr := Lib.hid hr
  clear hr
  go_wp2_with fail
  refine (H2.out _).mono ?_
  rintro e w2 ⟨s, rfl, hs, hb2⟩
  have hrs : nrm .f32 s = nrm .f32 r := by rw [hs, Hr.out]
  clear hs
  generalize (familyAtF kind n (nrm .f32 x)).2 = ok at *
  have hbel : Below w.heap.size w w2 := hb1.trans (hb2.mono hb1.size)
  clear hb1 hb2
  go_wp2_with (first | ((with_reducible refine wpList_fcvtg _ _ _ rfl .f32 .f64 _ ?_ Try.underlying26 rfl (fits_widen _) ?_ ?_); (rw [Try.underlying22]; rfl); exact rfl; intro r m hr) | (go_at_call 13; refine (sameFloat_true _ _ _ (by simp only [*])).mono ?_; rintro e w' ⟨m, rfl, rfl⟩))
  go_ret
  exact ⟨rfl, below_drewN hbel _⟩

end Go.Proofs.Ytcbaanidbkjmcaa
