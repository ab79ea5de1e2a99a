/- FamilyPoly, of the program and of the reference: the same polynomial. Conditions: none. -/
import Derived.Test.YtfamcgibcnldlaaPGs
import Derived.Test.YtfamcgibcnldlaaPGi
namespace Go.Proofs.Ytfamcgibcnldlaa
open Go Go.RowKit
set_option linter.unusedSimpArgs false
set_option linter.unusedVariables false

set_option maxRecDepth 100000 in
set_option maxHeartbeats 1000000 in
theorem familyPoly_spec (kind n : Int) (w : World) : Calls Try.prog 14 #[.int .i64 kind, .int .i64 n] w (RetP (familyPolyF kind n) w.heap.size w) := by
  cases hk : kindB kind n
  · have H := Lib.hid (show familyPolyF kind n = ([], false) by simp [familyPolyF, hk])
    rw [H.out]
    go_enter Try.func14, Try.ntmps14
    go_wp2_with (go_at_call 19; refine (family_spec _ _ _).mono ?_; rintro e w' ⟨rfl, rfl⟩)
    (try simp only [Exit.inBlock, Exit.then]); refine bodyPost_ret (by simp [results, Try.results14, go_sem, *]; try rfl) rfl ?_
    exact ⟨_, [], rfl, rfl, .inl ⟨rfl, rfl⟩, by (repeat' (first | (with_reducible exact Below.refl _ _) | (with_reducible assumption) | (with_reducible refine Below.alloc ?_ ?_ _) | (with_reducible refine Below.setCell ?_ ?_ _) | (with_reducible refine Below.drew ?_) | (with_reducible refine Below.via (by assumption) ?_ ?_) | go_size))⟩
  · obtain ⟨h0, h1⟩ := kindB_bound hk
    obtain ⟨n, rfl⟩ := Int.eq_ofNat_of_zero_le h0
    have H := Lib.hid (show familyPolyF kind n = polyF (termsS kind n).1 by simp [familyPolyF, hk])
    rw [H.out]
    go_enter Try.func14, Try.ntmps14
    go_wp2_with (go_at_call 19; refine (family_spec _ _ _).mono ?_; rintro e w' ⟨rfl, rfl⟩)
    (go_at_call 31; ((with_reducible refine (terms_spec kind n _ (by omega)).mono ?_); rintro e w1 ⟨v1, rs, rfl, hr1, hrs, hb1⟩))
    have hlen : rs.length = n + 1 := by have := congrArg List.length hrs; simpa [termsS_length] using this
    have hne : rs ≠ [] := by rintro rfl; simp at hlen
    have hl17 : rs.length ≤ 17 := by omega
    have Hrs := Lib.hid hrs
    clear hrs hlen
    have l0 : w.heap.size < w1.heap.size := by have := hb1.size; simp only [World.size_alloc] at this; omega
    have x0 : w1.cell? ⟨w.heap.size, 0, none⟩ = some (.slice none 0 0) := (hb1.cell (p := ⟨w.heap.size, 0, none⟩) (by simp)).trans (World.cell?_alloc_new w #[.slice none 0 0] _ 0)
    have f0 : w1.frozen? ⟨w.heap.size, 0, none⟩ = false := (hb1.frozen (p := ⟨w.heap.size, 0, none⟩) (by simp)).trans (by go_simp)
    have BB := Lib.hid (show Below w.heap.size w w1 by (repeat' (first | (with_reducible exact Below.refl _ _) | (with_reducible assumption) | (with_reducible refine Below.alloc ?_ ?_ _) | (with_reducible refine Below.setCell ?_ ?_ _) | (with_reducible refine Below.drew ?_) | (with_reducible refine Below.via (by assumption) ?_ ?_) | go_size)))
    clear hb1
    go_wp2_with fail
    (go_at_call 30; ((with_reducible refine (complex_spec _ rs _ hr1 (by omega)).mono ?_); rintro e w2 ⟨v2, rfl, ho1, hb2⟩))
    have z1 := Nat.le_of_lt l0
    replace x0 := (hb2.cell (p := ⟨w.heap.size, 0, none⟩) l0).trans x0
    replace f0 := (hb2.frozen (p := ⟨w.heap.size, 0, none⟩) l0).trans f0
    replace l0 : w.heap.size < w2.heap.size := Nat.lt_of_lt_of_le l0 hb2.size
    replace BB := Lib.hid (show Below w.heap.size w w2 from BB.out.trans (hb2.mono BB.out.size))
    clear hb2
    go_wp2_with fail
    (go_at_call 29; ((with_reducible refine (give_spec _ rs _ ho1.rd hne hl17).mono ?_); rintro e w3 ⟨v3, qs, rfl, hqs, ho2, hb3⟩))
    rw [Hrs.out] at hqs ⊢
    have z2 := Nat.le_of_lt l0
    replace ho2 := ho2.mono (B' := w.heap.size + 1) l0
    generalize polyF (termsS kind n).1 = F at *
    replace x0 := (hb3.cell (p := ⟨w.heap.size, 0, none⟩) l0).trans x0
    replace f0 := (hb3.frozen (p := ⟨w.heap.size, 0, none⟩) l0).trans f0
    replace l0 : w.heap.size < w3.heap.size := Nat.lt_of_lt_of_le l0 hb3.size
    replace BB := Lib.hid (show Below w.heap.size w w3 from BB.out.trans (hb3.mono BB.out.size))
    clear hb3
    obtain ⟨ao3, cap3, rfl, _⟩ := ho2.rd.shape
    simp only [cx_length] at ho2 ⊢
    have Ho2 := Lib.hid ho2
    clear ho2
    go_wp2_with fail
    (try simp only [Exit.inBlock, Exit.then]); refine bodyPost_ret (by simp [results, Try.results14, go_sem, *]; try rfl) rfl ?_
    exact ⟨_, qs, rfl, hqs, OwV.setOther (g := w.heap.size) (j := 0) (Ho2.out.mono (Nat.le_succ _)) (.inr (by intro e; have := (Ho2.out.lt _ e).1; omega)) _, by have h := BB.out; (repeat' (first | (with_reducible exact Below.refl _ _) | (with_reducible assumption) | (with_reducible refine Below.alloc ?_ ?_ _) | (with_reducible refine Below.setCell ?_ ?_ _) | (with_reducible refine Below.drew ?_) | (with_reducible refine Below.via (by assumption) ?_ ?_) | go_size))⟩

set_option maxRecDepth 100000 in
set_option maxHeartbeats 1000000 in
theorem familyPoly_impl (kind n : Int) (w : World) : Calls Try.prog 15 #[.int .i64 kind, .int .i64 n] w (RetP (familyPolyF kind n) w.heap.size w) := by
  cases hk : kindB kind n
  · have H := Lib.hid (show familyPolyF kind n = ([], false) by simp [familyPolyF, hk])
    rw [H.out]
    go_enter Try.func15, Try.ntmps15
    go_wp2_with (go_at_call 21; refine (isKind_impl _ _ _).mono ?_; rintro e w' ⟨rfl, rfl⟩)
    (try simp only [Exit.inBlock, Exit.then]); refine bodyPost_ret (by simp [results, Try.results15, go_sem, *]; try rfl) rfl ?_
    exact ⟨_, [], rfl, rfl, .inl ⟨rfl, rfl⟩, by (repeat' (first | (with_reducible exact Below.refl _ _) | (with_reducible assumption) | (with_reducible refine Below.alloc ?_ ?_ _) | (with_reducible refine Below.setCell ?_ ?_ _) | (with_reducible refine Below.drew ?_) | (with_reducible refine Below.via (by assumption) ?_ ?_) | go_size))⟩
  · obtain ⟨h0, h1⟩ := kindB_bound hk
    obtain ⟨n, rfl⟩ := Int.eq_ofNat_of_zero_le h0
    have H := Lib.hid (show familyPolyF kind n = polyF (termsS kind n).1 by simp [familyPolyF, hk])
    rw [H.out]
    go_enter Try.func15, Try.ntmps15
    go_wp2_with (go_at_call 21; refine (isKind_impl _ _ _).mono ?_; rintro e w' ⟨rfl, rfl⟩)
    (go_at_call 34; ((with_reducible refine (terms_impl kind n _ (by omega)).mono ?_); rintro e w1 ⟨g, cap, one, rs, rfl, c1, hr1, hrs, hb1⟩))
    have hlen : rs.length = n + 1 := by have := congrArg List.length hrs; simpa [termsS_length] using this
    have hne : rs ≠ [] := by rintro rfl; simp at hlen
    have hl17 : rs.length ≤ 17 := by omega
    have Hrs := Lib.hid hrs
    clear hrs hlen
    have l0 : w.heap.size < w1.heap.size := by have := hb1.size; simp only [World.size_alloc] at this; omega
    have x0 : w1.cell? ⟨w.heap.size, 0, none⟩ = some (.slice none 0 0) := (hb1.cell (p := ⟨w.heap.size, 0, none⟩) (by simp)).trans (World.cell?_alloc_new w #[.slice none 0 0] _ 0)
    have f0 : w1.frozen? ⟨w.heap.size, 0, none⟩ = false := (hb1.frozen (p := ⟨w.heap.size, 0, none⟩) (by simp)).trans (by go_simp)
    have BB := Lib.hid (show Below w.heap.size w w1 by (repeat' (first | (with_reducible exact Below.refl _ _) | (with_reducible assumption) | (with_reducible refine Below.alloc ?_ ?_ _) | (with_reducible refine Below.setCell ?_ ?_ _) | (with_reducible refine Below.drew ?_) | (with_reducible refine Below.via (by assumption) ?_ ?_) | go_size)))
    clear hb1
    go_wp2_with fail
    (go_at_call 33; ((with_reducible refine (complexes_impl _ rs _ hr1 (by omega)).mono ?_); rintro e w2 ⟨v2, rfl, ho1, hb2⟩))
    have z1 := Nat.le_of_lt l0
    replace ho1 := ho1.mono (B' := w.heap.size + 1) l0
    replace x0 := (hb2.cell (p := ⟨w.heap.size, 0, none⟩) l0).trans x0
    replace f0 := (hb2.frozen (p := ⟨w.heap.size, 0, none⟩) l0).trans f0
    replace l0 : w.heap.size < w2.heap.size := Nat.lt_of_lt_of_le l0 hb2.size
    replace BB := Lib.hid (show Below w.heap.size w w2 from BB.out.trans (hb2.mono BB.out.size))
    clear hb2
    go_wp2_with fail
    (go_at_call 32; ((with_reducible refine (polyOf_impl _ rs _ (w.heap.size + 1) (Nat.succ_le_of_lt l0) ho1 hne hl17).mono ?_); rintro e w3 ⟨v3, qs, rfl, hqs, ho2, hb3⟩))
    rw [Hrs.out] at hqs ⊢
    generalize polyF (termsS kind n).1 = F at *
    replace x0 := (hb3.cell (p := ⟨w.heap.size, 0, none⟩) l0).trans x0
    replace f0 := (hb3.frozen (p := ⟨w.heap.size, 0, none⟩) l0).trans f0
    replace l0 : w.heap.size < w3.heap.size := Nat.lt_of_lt_of_le l0 hb3.size
    replace BB := Lib.hid (show Below w.heap.size w w3 from BB.out.trans (hb3.mono BB.out.size))
    clear hb3
    obtain ⟨ao3, cap3, rfl, _⟩ := ho2.rd.shape
    simp only [cx_length] at ho2 ⊢
    have Ho2 := Lib.hid ho2
    clear ho2
    go_wp2_with fail
    (try simp only [Exit.inBlock, Exit.then]); refine bodyPost_ret (by simp [results, Try.results15, go_sem, *]; try rfl) rfl ?_
    exact ⟨_, qs, rfl, hqs, OwV.setOther (g := w.heap.size) (j := 0) (Ho2.out.mono (Nat.le_succ _)) (.inr (by intro e; have := (Ho2.out.lt _ e).1; omega)) _, by have h := BB.out; (repeat' (first | (with_reducible exact Below.refl _ _) | (with_reducible assumption) | (with_reducible refine Below.alloc ?_ ?_ _) | (with_reducible refine Below.setCell ?_ ?_ _) | (with_reducible refine Below.drew ?_) | (with_reducible refine Below.via (by assumption) ?_ ?_) | go_size))⟩

end Go.Proofs.Ytfamcgibcnldlaa
