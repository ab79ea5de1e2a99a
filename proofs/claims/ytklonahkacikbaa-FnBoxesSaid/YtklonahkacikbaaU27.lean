/- Small contracts of the law FnBoxes: complex words that are the same, gaps of turns, lists of integers. Conditions: finite words. -/
import Derived.Test.YtklonahkacikbaaU19
import Derived.Test.YtklonahkacikbaaU26
namespace Go.Proofs.Ytklonahkacikbaa
open Go Go.RowKit
set_option linter.unusedSimpArgs false
set_option linter.unusedVariables false

theorem run_bits32 (x : Nat) (w : World) : (callFunc 94 #[.float .f32 x]).run Try.prog w = .ok (.value (.int .u32 x)) w := by kernel_rfl
set_option maxRecDepth 100000 in
theorem bits_spec (x : Nat) (w : World) (h : fcmp .neq .f32 (nrm .f32 x) (nrm .f32 x) = false) : Calls Try.prog 80 #[.float .f32 x] w fun e w' => e = .returned (.int .i64 (wrap64 (x : Int))) ∧ w = w' := by
  have RB := fun w1 => run_bits32 x w1
  go_enter Try.func80, Try.ntmps80
  go_wp2_with fail
  go_ret
  exact ⟨by first | rfl | simp, by first | rfl | simp⟩
theorem gi_get {C : List Int} {j : Nat} (h : j < C.length) : (gi C)[j]? = some (.int .i64 (C.getD j 0)) := by simp [gi, List.getD, h]
set_option maxRecDepth 100000 in
set_option maxHeartbeats 1600000 in
theorem b10Ints_same (va vb : Value) (xs : List Int) (w : World) (ha : RdV w va (gi xs)) (hb : RdV w vb (gi xs)) (hnx : xs ≠ []) (hlx : xs.length ≤ 1000) : Calls Try.prog 13 #[va, vb] w fun e w' => e = .returned (.bool true) ∧ Below w.heap.size w w' := by
  have hng : gi xs ≠ [] := by rw [← List.length_pos_iff, gi_length]; exact List.length_pos_iff.2 hnx
  obtain ⟨b, off, cap, rfl, _, _, hc⟩ := ha.open hng
  obtain ⟨b', off', cap', rfl, _, _, hc'⟩ := hb.open hng
  rw [gi_length] at hc hc' ⊢
  have Hc := Lib.hid (show ∀ i, i < xs.length → w.cell? ⟨b, off + i, none⟩ = some (.int .i64 (xs.getD i 0)) from fun i hi => (hc i hi).trans (gi_get hi))
  have Hc' := Lib.hid (show ∀ i, i < xs.length → w.cell? ⟨b', off' + i, none⟩ = some (.int .i64 (xs.getD i 0)) from fun i hi => (hc' i hi).trans (gi_get hi))
  clear hc hc' ha hb hnx hng
  go_enter Try.func13, Try.ntmps13
  go_wp2
  go_loopw [13] (fun i wr => ∃ k m : Nat, k ≤ xs.length ∧ i = .int .i64 k ∧ wr = w.drewN m) (fun i _ => xs.length - (intOf i).toNat)
  case atStart => exact ⟨0, 0, Nat.zero_le _, rfl, rfl⟩
  case round =>
    obtain ⟨k, m, hk, rfl, rfl⟩ := hrel
    by_cases hlt : k < xs.length
    · have hlti : (k : Int) < (xs.length : Int) := by omega
      have c1 := Hc.out k hlt
      have c2 := Hc'.out k hlt
      obtain ⟨z, hz2⟩ : ∃ z, z = xs.getD k 0 := ⟨_, rfl⟩
      rw [← hz2] at c1 c2
      clear hz2
      go_wp2_with fail
      go_quiet (fail)
      go_wp2
      go_roundw
      case rel => exact ⟨k + 1, _, by omega, by go_num, rfl⟩
      case measure => simp [intOf]; omega
    · obtain rfl : k = xs.length := by omega
      go_wp2
      go_ret
      exact ⟨rfl, drewN_below _ _⟩

theorem neq_self {x : Nat} (h : fN .f32 x = true) : fcmp .neq .f32 (nrm .f32 x) (nrm .f32 x) = false := by
  rw [fN_nrm h]
  have e := cmp_eql h h
  have : fcmp .neq .f32 x x = !fcmp .eql .f32 x x := by rfl
  rw [this, e]; simp
set_option maxRecDepth 100000 in
theorem same1_spec (x : Nat) (w : World) (h : fN .f32 x = true) : Calls Try.prog 63 #[.float .f32 x, .float .f32 x] w fun e w' => e = .returned (.bool true) ∧ w = w' := by
  have HB := Lib.hid (fun w1 => bits_spec x w1 (neq_self h))
  clear h
  go_enter Try.func63, Try.ntmps63
  go_wp2_with (go_at_call 80; ((with_reducible refine (HB.out _).mono ?_); rintro e w' ⟨rfl, rfl⟩))
  go_ret
  exact ⟨by simp, rfl⟩
set_option maxRecDepth 100000 in
theorem same2_spec (a b : Nat) (w : World) (ha : fN .f32 a = true) (hb : fN .f32 b = true) : Calls Try.prog 41 #[.complex .f32 a b, .complex .f32 a b] w fun e w' => e = .returned (.bool true) ∧ w = w' := by
  have HA := Lib.hid (fun w1 => same1_spec a w1 ha)
  have HB := Lib.hid (fun w1 => same1_spec b w1 hb)
  clear ha hb
  go_enter Try.func41, Try.ntmps41
  go_wp2_with (go_at_call 63; (first | ((with_reducible refine (HA.out _).mono ?_); rintro e w' ⟨rfl, rfl⟩) | ((with_reducible refine (HB.out _).mono ?_); rintro e w' ⟨rfl, rfl⟩)))
  go_ret
  exact ⟨by simp, rfl⟩
set_option maxRecDepth 100000 in
theorem same_spec (a b : Nat) (w : World) (ha : fN .f32 a = true) (hb : fN .f32 b = true) : Calls Try.prog 16 #[.complex .f32 a b, .complex .f32 a b] w fun e w' => e = .returned (.bool true) ∧ w = w' := by
  have HA := Lib.hid (fun w1 => same2_spec a b w1 ha hb)
  clear ha hb
  go_enter Try.func16, Try.ntmps16
  go_wp2_with (go_at_call 41; ((with_reducible refine (HA.out _).mono ?_); rintro e w' ⟨rfl, rfl⟩))
  go_ret
  exact ⟨rfl, rfl⟩
theorem cent_ok : fN .f64 (nrm .f64 4576918229304087675) = true ∧ (97 : Rat) / 10000 ≤ vN .f64 (nrm .f64 4576918229304087675) := by decide +kernel
/-- A gap below 0.01. -/
theorem gap_word {x y r : Nat} (fx : fN .f64 x = true) (fy : fN .f64 y = true) (h : A (vN .f64 x - vN .f64 y) ≤ 96 / 10000) (hr : nrm .f64 r = fop .sub .f64 x y ∨ nrm .f64 r = fop .sub .f64 y x) : fcmp .gtr .f64 (nrm .f64 r) (nrm .f64 4576918229304087675) = false := by
  have key : ∀ a b : Nat, fN .f64 a = true → fN .f64 b = true → A (vN .f64 a - vN .f64 b) ≤ 96 / 10000 → fcmp .gtr .f64 (fop .sub .f64 a b) (nrm .f64 4576918229304087675) = false := by
    intro a b ha hb hab
    have h64 : A (vN .f64 a - vN .f64 b) ≤ 64 := Rat.le_trans hab (by decide +kernel)
    have e := ve_sub ha hb h64
    have ff := (fop_sub_res ha hb (l64 h64)).1
    rw [cmp_gtr ff cent_ok.1]
    simp only [decide_eq_false_iff_not]
    intro hlt
    have c := cent_ok.2
    have a1 := le_A (vN .f64 (fop .sub .f64 a b) - (vN .f64 a - vN .f64 b))
    have a2 := le_A (vN .f64 a - vN .f64 b)
    have e0s : e0 ≤ 1 / 1000000 := by decide +kernel
    grind
  rcases hr with hr | hr
  · rw [hr]; exact key x y fx fy h
  · rw [hr]; exact key y x fy fx (by rw [show vN .f64 y - vN .f64 x = -(vN .f64 x - vN .f64 y) by grind, A_neg]; exact h)
set_option maxRecDepth 100000 in
theorem gap_law (x y : Nat) (w : World) (fx : fN .f64 (nrm .f64 x) = true) (fy : fN .f64 (nrm .f64 y) = true) (h : A (vN .f64 (nrm .f64 x) - vN .f64 (nrm .f64 y)) ≤ 96 / 10000) : Calls Try.prog 10 #[.float .f64 x, .float .f64 y] w fun e w' => ∃ r m, e = .returned (.float .f64 r) ∧ w' = w.drewN m ∧ fcmp .gtr .f64 (nrm .f64 r) (nrm .f64 4576918229304087675) = false := by
  have K := Lib.hid (fun r hr => gap_word (r := r) fx fy h hr)
  clear fx fy h
  cases hc : fcmp .lss .f64 (nrm .f64 x) (nrm .f64 y)
  · go_enter Try.func10, Try.ntmps10
    go_wp2_with ((with_reducible refine wpList_fop rfl .sub _ _ _ _ rfl rfl .f64 _ _ rfl rfl ?_); intro r mr hr)
    go_ret
    exact ⟨_, _, rfl, by first | rfl | (simp only [World.drewN_drewN]; rfl), K.out _ (by first | exact .inl hr | exact .inr hr)⟩
  · go_enter Try.func10, Try.ntmps10
    go_wp2_with ((with_reducible refine wpList_fop rfl .sub _ _ _ _ rfl rfl .f64 _ _ rfl rfl ?_); intro r mr hr)
    go_ret
    exact ⟨_, _, rfl, by first | rfl | (simp only [World.drewN_drewN]; rfl), K.out _ (by first | exact .inl hr | exact .inr hr)⟩
end Go.Proofs.Ytklonahkacikbaa

/- The calls of the law FnBoxes, as contracts. Conditions: up to four drawn roots, their polynomial. -/
namespace Go.Proofs.Ytklonahkacikbaa
open Go Go.RowKit
set_option linter.unusedSimpArgs false
set_option linter.unusedVariables false

structure DB (rs ls : List C2) (X : Nat → Int × Int) : Prop where
  h : DX ls X
  h1 : 1 ≤ ls.length
  h4 : ls.length ≤ 4
  e : rs.map nc = rootsL (ls.map nc) ls.length
section
variable {rs ls : List C2} {X : Nat → Int × Int}
theorem DB.len (H : DB rs ls X) : rs.length = ls.length + 1 := by
  have := congrArg List.length H.e
  rw [List.length_map, rootsL_length] at this
  exact this
theorem gl_nc : nc (bx 0 0 8).1 = (bx 0 0 8).1 ∧ nc (bx 0 0 8).2 = (bx 0 0 8).2 := ⟨nc_fin bx_great.fin.1, nc_fin bx_great.fin.2⟩
theorem aw_nc : nc awl = awl ∧ nc awh = awh := ⟨nc_fin (box_fin away_box.1).1, nc_fin (box_fin away_box.1).2⟩
theorem DB.roots1 (H : DB rs ls X) (v : Value) (w : World) (hv : RdV w v (cx rs)) : Calls Try.prog 8 #[.agg #[v], .complex .f32 3238035456 3238019072, .complex .f32 1090584576 1090617344, .int .i64 40] w (RetZB ((ls.length : Int), true) w) := by
  have := roots_impl v rs ls.length (bx 0 0 8).1 (bx 0 0 8).2 40 w hv H.len (by have := H.h4; omega) (by rw [H.e, gl_nc.1, gl_nc.2]; exact H.h.great H.h1 H.h4)
  rw [H.e, gl_nc.1, gl_nc.2, (H.h.counts H.h1 H.h4).1] at this
  exact this
theorem DB.turns1 (H : DB rs ls X) (v : Value) (w : World) (hv : RdV w v (cx rs)) : Calls Try.prog 9 #[.agg #[v], .complex .f32 3238035456 3238019072, .complex .f32 1090584576 1090617344, .int .i64 40] w fun e w' => ∃ r, e = .returned (.tuple #[.float .f32 r, .bool true]) ∧ Below w.heap.size w w' ∧ fN .f32 (nrm .f32 r) = true ∧ A (vN .f32 (nrm .f32 r) - (ls.length : Rat)) ≤ 95 / 10000 := by
  have b := H.h.great H.h1 H.h4
  have t : A (vN .f32 (turnS (rootsL (ls.map nc) ls.length) (bx 0 0 8).1 (bx 0 0 8).2 40 (4 * 40)) - (ls.length : Rat)) ≤ 95 / 10000 := H.h.turns H.h1 H.h4
  have f := (b.sum (4 * 40) (Nat.le_refl _)).1
  have := turns_impl v rs (bx 0 0 8).1 (bx 0 0 8).2 40 w hv (by rw [H.len]; omega) (by rw [H.len]; have := H.h4; omega) (by rw [H.e, gl_nc.1, gl_nc.2]; exact b)
  rw [H.e, gl_nc.1, gl_nc.2] at this
  refine Calls.mono this ?_
  generalize turnS (rootsL (ls.map nc) ls.length) (bx 0 0 8).1 (bx 0 0 8).2 40 (4 * 40) = T at *
  rintro e w' ⟨r, rfl, hr, hb⟩
  have hr2 : nrm .f32 r = T := hr
  exact ⟨r, rfl, hb, by rw [hr2]; exact f, by rw [hr2]; exact t⟩
theorem great_four (H : DB rs ls X) : FourOk (rs.map nc) (bx 0 0 8).1 (bx 0 0 8).2 60 := by
  rw [H.e]
  exact H.h.fourAt H.h1 H.h4 (i := 0) (j := 0) (t := 4) bx_great
theorem DB.four1 (H : DB rs ls X) : ∃ F : List Int × Bool, (F.2 = true → F.1.length = 4) ∧ (∀ (v : Value) (w : World), RdV w v (cx rs) → Calls Try.prog 11 #[.agg #[v], .complex .f32 3238035456 3238019072, .complex .f32 1090584576 1090617344, .int .i64 60] w (RetLZ F w)) ∧
    (∀ (v : Value) (w : World), RdV w v (cx rs) → Calls Try.prog 12 #[.agg #[v], .complex .f32 3238035456 3238019072, .complex .f32 1090584576 1090617344, .int .i64 60] w (RetLZ F w)) :=
  ⟨_, (fourR_len _ _).2, fun v w hv => four_spec v rs ls.length (bx 0 0 8).1 (bx 0 0 8).2 60 w hv H.len H.h1 (by have := H.h4; omega) (great_four H), fun v w hv => four_impl v rs ls.length (bx 0 0 8).1 (bx 0 0 8).2 60 w hv H.len H.h1 (by have := H.h4; omega) (great_four H)⟩
theorem DB.narrow1 (H : DB rs ls X) : ∃ o : Option (C2 × C2), (∀ x, o = some x → fC x.1 ∧ fC x.2) ∧ (∀ (v : Value) (w : World), RdV w v (cx rs) → Calls Try.prog 14 #[.agg #[v], .complex .f32 3238035456 3238019072, .complex .f32 1090584576 1090617344, .int .i64 60, .int .i64 3] w (RetNB o w)) ∧
    (∀ (v : Value) (w : World), RdV w v (cx rs) → Calls Try.prog 15 #[.agg #[v], .complex .f32 3238035456 3238019072, .complex .f32 1090584576 1090617344, .int .i64 60, .int .i64 3] w (RetNB o w)) := by
  have root := (H.h.poly H.h1 H.h4).2.2
  have nb := fun k (hk : k < 3) b hb => H.h.narrow H.h1 H.h4 (ls.length : Int) k hk b hb
  rw [← H.e] at root nb
  refine ⟨iterB (rs.map nc) ls.length 60 (bx 0 0 8) 3, fun x hx => ?_, fun v w hv => ?_, fun v w hv => ?_⟩
  · obtain ⟨i, j, v, rfl⟩ := iter_bx _ _ 3 (by omega) x hx
    exact v.fin
  · exact narrow_box_spec v rs ls.length (bx 0 0 8).1 (bx 0 0 8).2 60 3 w hv H.len H.h1 (by have := H.h4; omega) (by omega) gl_nc.1 gl_nc.2 (by omega) (by omega) root bx_great.box nb
  · exact narrow_impl v rs ls.length (bx 0 0 8).1 (bx 0 0 8).2 60 3 w hv H.len H.h1 (by have := H.h4; omega) (by omega) gl_nc.1 gl_nc.2 (by omega) (by omega) root bx_great.box nb
theorem DB.roots2 (H : DB rs ls X) (v : Value) (w : World) (hv : RdV w v (cx rs)) : Calls Try.prog 8 #[.agg #[v], .complex .f32 1101004800 1101004800, .complex .f32 1102053376 1102053376, .int .i64 40] w (RetZB (0, true) w) := by
  have := roots_impl v rs ls.length awl awh 40 w hv H.len (by have := H.h4; omega) (by rw [H.e, aw_nc.1, aw_nc.2]; exact H.h.away H.h1 H.h4)
  rw [H.e, aw_nc.1, aw_nc.2, (H.h.counts H.h1 H.h4).2] at this
  exact this
end
end Go.Proofs.Ytklonahkacikbaa
