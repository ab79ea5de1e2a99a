/- The slope of a polynomial, of the program and of the reference. Conditions: polynomials of 1 to 17 terms. -/
import Derived.Test.YtfnhddaofllniaaGreatV4
namespace Go.Proofs.YtfnhddaofllniaaGreat
set_option linter.unusedSimpArgs false
set_option linter.unusedVariables false
open Go Go.RowKit

theorem row_nilS {w : World} {B s : Nat} (hs : s = w.heap.size) (h : B ≤ w.heap.size) (e : TypeId) : RowV e (w.alloc (.cells #[] e)) B (.slice (some ⟨s, 0, none⟩) 0 0) [] := hs ▸ row_nil h e

set_option maxRecDepth 100000 in
set_option maxHeartbeats 1000000 in
theorem slope_impl (v : Value) (rs : List C2) (w : World) (hv : RdV w v (cx rs)) (h1 : 1 ≤ rs.length) (h2 : rs.length ≤ 17) :
    Calls Tryz.prog 115 #[.agg #[v]] w (RetP (slopePolyF (rs.map nc)) w.heap.size w) := by
  obtain ⟨ao, cap, rfl, _⟩ := hv.shape
  rw [cx_length] at hv ⊢
  have Hv := Lib.hid hv
  clear hv
  have HL := Lib.hid (slopeF_length (rs.map nc) (by simpa using h1))
  have Xp := Lib.hid (show ((w.alloc (.cells #[.slice ao rs.length cap] 28)).alloc (.cells #[.slice none 0 0] 28)).cell? ⟨w.heap.size, 0, none⟩ = some (.slice ao rs.length cap) by go_simp)
  have Xr := Lib.hid (show ((w.alloc (.cells #[.slice ao rs.length cap] 28)).alloc (.cells #[.slice none 0 0] 28)).cell? ⟨w.heap.size + 1, 0, none⟩ = some (.slice none 0 0) by go_simp)
  have Fr := Lib.hid (show ((w.alloc (.cells #[.slice ao rs.length cap] 28)).alloc (.cells #[.slice none 0 0] 28)).frozen? ⟨w.heap.size + 1, 0, none⟩ = false by go_simp)
  cases hval : validF (rs.map nc)
  · have H := Lib.hid (show slopePolyF (rs.map nc) = ([], false) by simp [slopePolyF, hval])
    rw [H.out]
    go_enter Tryz.func115, Tryz.ntmps115
    go_wp2_with fail
    (go_at_call 40; ((with_reducible refine (valid_impl _ rs _ ((Hv.out.alloc _).alloc _) h1 h2).mono ?_); rintro e w1 ⟨rfl, hb1⟩))
    rw [hval]
    have lr : w.heap.size + 1 < w1.heap.size := by have := hb1.size; simp only [World.size_alloc] at this; omega
    have lp : w.heap.size < w1.heap.size := by omega
    have xp : w1.cell? ⟨w.heap.size, 0, none⟩ = some (.slice ao rs.length cap) := (hb1.cell (p := ⟨w.heap.size, 0, none⟩) (by simp; omega)).trans Xp.out
    have xr : w1.cell? ⟨w.heap.size + 1, 0, none⟩ = some (.slice none 0 0) := (hb1.cell (p := ⟨w.heap.size + 1, 0, none⟩) (by simp)).trans Xr.out
    have fr : w1.frozen? ⟨w.heap.size + 1, 0, none⟩ = false := (hb1.frozen (p := ⟨w.heap.size + 1, 0, none⟩) (by simp)).trans Fr.out
    have BB := Lib.hid (show Below w.heap.size w w1 from (((Below.refl _ _).alloc (Nat.le_refl _) _).alloc (by simp) _).trans (hb1.mono (by simp; omega)))
    clear hb1
    go_wp2_with fail
    (try simp only [Exit.inBlock, Exit.then]); refine bodyPost_ret (by simp [results, Tryz.results115, go_sem, *]; try rfl) rfl ?_
    exact ⟨_, [], rfl, rfl, .inl ⟨rfl, rfl⟩, by have h := BB.out; (repeat' (first | (with_reducible exact Below.refl _ _) | (with_reducible assumption) | (with_reducible refine Below.alloc ?_ ?_ _) | (with_reducible refine Below.setCell ?_ ?_ _) | (with_reducible refine below_drewN ?_ _) | (with_reducible refine Below.via (by assumption) ?_ ?_) | go_size))⟩
  · have H := Lib.hid (show slopePolyF (rs.map nc) = polyF (slopeF (rs.map nc)) by simp [slopePolyF, hval])
    rw [H.out]
    go_enter Tryz.func115, Tryz.ntmps115
    go_wp2_with fail
    (go_at_call 40; ((with_reducible refine (valid_impl _ rs _ ((Hv.out.alloc _).alloc _) h1 h2).mono ?_); rintro e w1 ⟨rfl, hb1⟩))
    rw [hval]
    have Hv1 := Lib.hid ((((Hv.out.alloc _).alloc _).below hb1 : RdV w1 (.slice ao rs.length cap) (cx rs)))
    have lr : w.heap.size + 1 < w1.heap.size := by have := hb1.size; simp only [World.size_alloc] at this; omega
    have lp : w.heap.size < w1.heap.size := by omega
    have xp : w1.cell? ⟨w.heap.size, 0, none⟩ = some (.slice ao rs.length cap) := (hb1.cell (p := ⟨w.heap.size, 0, none⟩) (by simp; omega)).trans Xp.out
    have xr : w1.cell? ⟨w.heap.size + 1, 0, none⟩ = some (.slice none 0 0) := (hb1.cell (p := ⟨w.heap.size + 1, 0, none⟩) (by simp)).trans Xr.out
    have fr : w1.frozen? ⟨w.heap.size + 1, 0, none⟩ = false := (hb1.frozen (p := ⟨w.heap.size + 1, 0, none⟩) (by simp)).trans Fr.out
    have BB := Lib.hid (show Below w.heap.size w w1 from (((Below.refl _ _).alloc (Nat.le_refl _) _).alloc (by simp) _).trans (hb1.mono (by simp; omega)))
    clear hb1
    go_wp2_with fail
    (go_at_call 122; ((with_reducible refine (slopeTerms_impl _ rs _ Hv1.out h1 h2).mono ?_); rintro e w2 ⟨v2, qs, rfl, hqs, ho1, hb2⟩))
    have hql : qs.length = (slopeF (rs.map nc)).length := by rw [← hqs, List.length_map]
    have hl1 : 1 ≤ qs.length := by rw [hql]; exact HL.out.1
    have hl2 : qs.length ≤ 17 := by rw [hql]; have := HL.out.2; rw [List.length_map] at this; omega
    have hne : qs ≠ [] := by rintro rfl; simp at hl1
    have Hqs := Lib.hid hqs
    replace ho1 := ho1.mono (B' := w.heap.size + 2) lr
    clear hqs hql
    replace xp := (hb2.cell (p := ⟨w.heap.size, 0, none⟩) lp).trans xp
    replace xr := (hb2.cell (p := ⟨w.heap.size + 1, 0, none⟩) lr).trans xr
    replace fr := (hb2.frozen (p := ⟨w.heap.size + 1, 0, none⟩) lr).trans fr
    replace lr : w.heap.size + 1 < w2.heap.size := Nat.lt_of_lt_of_le lr hb2.size
    replace lp : w.heap.size < w2.heap.size := by omega
    replace BB := Lib.hid (show Below w.heap.size w w2 from BB.out.trans (hb2.mono BB.out.size))
    clear hb2
    go_wp2_with fail
    (go_at_call 34; ((with_reducible refine (polyOf_impl _ qs _ (w.heap.size + 2) (Nat.succ_le_of_lt lr) ho1 hne hl2).mono ?_); rintro e w3 ⟨v3, ts, rfl, hts, ho2, hb3⟩))
    rw [Hqs.out] at hts ⊢
    generalize polyF (slopeF (rs.map nc)) = G at *
    replace xp := (hb3.cell (p := ⟨w.heap.size, 0, none⟩) lp).trans xp
    replace xr := (hb3.cell (p := ⟨w.heap.size + 1, 0, none⟩) lr).trans xr
    replace fr := (hb3.frozen (p := ⟨w.heap.size + 1, 0, none⟩) lr).trans fr
    replace lr : w.heap.size + 1 < w3.heap.size := Nat.lt_of_lt_of_le lr hb3.size
    replace lp : w.heap.size < w3.heap.size := by omega
    replace BB := Lib.hid (show Below w.heap.size w w3 from BB.out.trans (hb3.mono BB.out.size))
    clear hb3
    obtain ⟨ao3, cap3, rfl, _⟩ := ho2.rd.shape
    simp only [cx_length] at ho2 ⊢
    have Ho2 := Lib.hid ho2
    clear ho2
    go_wp2_with fail
    (try simp only [Exit.inBlock, Exit.then]); refine bodyPost_ret (by simp [results, Tryz.results115, go_sem, *]; try rfl) rfl ?_
    exact ⟨_, ts, rfl, hts, OwV.setOther (g := w.heap.size + 1) (j := 0) (Ho2.out.mono (by omega)) (.inr (by intro e; have := (Ho2.out.lt _ e).1; omega)) _, by have h := BB.out; (repeat' (first | (with_reducible exact Below.refl _ _) | (with_reducible assumption) | (with_reducible refine Below.alloc ?_ ?_ _) | (with_reducible refine Below.setCell ?_ ?_ _) | (with_reducible refine below_drewN ?_ _) | (with_reducible refine Below.via (by assumption) ?_ ?_) | go_size))⟩

set_option maxRecDepth 100000 in
set_option maxHeartbeats 1000000 in
theorem slope_spec (v : Value) (rs : List C2) (w : World) (hv : RdV w v (cx rs)) (h1 : 1 ≤ rs.length) (h2 : rs.length ≤ 17) :
    Calls Tryz.prog 120 #[.agg #[v]] w (RetP (slopePolyF (rs.map nc)) w.heap.size w) := by
  obtain ⟨ao, cap, rfl, _⟩ := hv.shape
  rw [cx_length] at hv ⊢
  have Hv := Lib.hid hv
  clear hv
  have HL := Lib.hid (slopeF_length (rs.map nc) (by simpa using h1))
  have Xp := Lib.hid (show ((w.alloc (.cells #[.slice ao rs.length cap] 28)).alloc (.cells #[.slice none 0 0] 28)).cell? ⟨w.heap.size, 0, none⟩ = some (.slice ao rs.length cap) by go_simp)
  have Xr := Lib.hid (show ((w.alloc (.cells #[.slice ao rs.length cap] 28)).alloc (.cells #[.slice none 0 0] 28)).cell? ⟨w.heap.size + 1, 0, none⟩ = some (.slice none 0 0) by go_simp)
  have Fr := Lib.hid (show ((w.alloc (.cells #[.slice ao rs.length cap] 28)).alloc (.cells #[.slice none 0 0] 28)).frozen? ⟨w.heap.size + 1, 0, none⟩ = false by go_simp)
  have P := Lib.hid (is_spec w.heap.size (.slice ao rs.length cap) rs ((w.alloc (.cells #[.slice ao rs.length cap] 28)).alloc (.cells #[.slice none 0 0] 28)) Xp.out ((Hv.out.alloc _).alloc _) h1 h2)
  cases hval : validF (rs.map nc)
  · have H := Lib.hid (show slopePolyF (rs.map nc) = ([], false) by simp [slopePolyF, hval])
    rw [H.out]
    go_enter Tryz.func120, Tryz.ntmps120
    go_wp2_with fail
    refine P.out.mono ?_
    rintro e w1 ⟨m, rfl, rfl⟩
    rw [hval]
    go_wp2_with fail
    (try simp only [Exit.inBlock, Exit.then]); refine bodyPost_ret (by simp [results, Tryz.results120, go_sem, *]; try rfl) rfl ?_
    exact ⟨_, [], rfl, rfl, .inl ⟨rfl, rfl⟩, by (repeat' (first | (with_reducible exact Below.refl _ _) | (with_reducible assumption) | (with_reducible refine Below.alloc ?_ ?_ _) | (with_reducible refine Below.setCell ?_ ?_ _) | (with_reducible refine below_drewN ?_ _) | (with_reducible refine Below.via (by assumption) ?_ ?_) | go_size))⟩
  · have H := Lib.hid (show slopePolyF (rs.map nc) = polyF (slopeF (rs.map nc)) by simp [slopePolyF, hval])
    rw [H.out]
    go_enter Tryz.func120, Tryz.ntmps120
    go_wp2_with fail
    refine P.out.mono ?_
    rintro e w1 ⟨m, rfl, rfl⟩
    rw [hval]
    clear P
    have Hv1 := Lib.hid (show RdV ((w.alloc (.cells #[.slice ao rs.length cap] 28)).alloc (.cells #[.slice none 0 0] 28)) (.slice ao rs.length cap) (cx rs) from (Hv.out.alloc _).alloc _)
    have Sz := Lib.hid (show ((w.alloc (.cells #[.slice ao rs.length cap] 28)).alloc (.cells #[.slice none 0 0] 28)).heap.size = w.heap.size + 2 by simp)
    have B0 := Lib.hid (show Below w.heap.size w ((w.alloc (.cells #[.slice ao rs.length cap] 28)).alloc (.cells #[.slice none 0 0] 28)) from ((Below.refl _ _).alloc (Nat.le_refl _) _).alloc (by simp) _)
    generalize ((w.alloc (.cells #[.slice ao rs.length cap] 28)).alloc (.cells #[.slice none 0 0] 28)) = W at *
    obtain ⟨n, hn⟩ : ∃ n, rs.length = n + 1 := ⟨rs.length - 1, by omega⟩
    rcases Hv1.out.openC with ⟨rfl, _⟩ | ⟨b, off, cap', hve, hb, hcp, hc⟩
    · simp at h1
    simp only [Value.slice.injEq, true_and] at hve
    obtain ⟨rfl, rfl⟩ := hve
    have Hc := Lib.hid (show ∀ i, i < n + 1 → W.cell? ⟨b, off + i, none⟩ = some (.complex .f32 (rs.getD i (0, 0)).1 (rs.getD i (0, 0)).2) from fun i hi => by
      rw [hc i (by omega)]; simp [List.getD, show i < rs.length by omega])
    have Hg := Lib.hid (fun i => getD_nc rs i)
    have HF := Lib.hid (show (rs.map nc).length = n + 1 by rw [List.length_map, hn])
    rw [hn] at Xp ⊢
    have hn16 : n ≤ 16 := by omega
    clear hc h1 h2 hn hcp Hv Hv1 hval H
    generalize rs.map nc = F at *
    have sz := Sz.out
    have xp := Xp.out
    have xr := Xr.out
    have fr := Fr.out
    have lp : w.heap.size < W.heap.size := by omega
    go_wp2
    go_loopw [4, 5] (fun ov i wr => ∃ (k : Nat) (qs : List C2), 1 ≤ k ∧ k ≤ n + 1 ∧ i = .int .i64 k ∧ RowV 32 wr W.heap.size ov (cx qs) ∧ qs.map nc = (List.range (k - 1)).map (slopeG F) ∧ Below W.heap.size W wr) (fun _ i _ => n + 1 - (intOf i).toNat)
    case atStart => exact ⟨1, [], Nat.le_refl _, by omega, rfl, row_nilS (w := W.drewN m) (by rw [← Sz.out]; rfl) (Nat.le_refl _) _, rfl, (below_drewN (Below.refl _ _) _).alloc (Nat.le_refl _) _⟩
    case round =>
      obtain ⟨k, qs, hk1, hk, rfl, hrow, hqs, hbel⟩ := hrel
      have hsz := hbel.size
      have hql : qs.length = k - 1 := by have := congrArg List.length hqs; simpa using this
      have xp2 := (hbel.cell (p := ⟨w.heap.size, 0, none⟩) lp).trans xp
      by_cases hlt : k < n + 1
      · have c1 := (hbel.cell (p := ⟨b, off + k, none⟩) hb).trans (Hc.out k hlt)
        obtain ⟨j, rfl⟩ : ∃ j, k = j + 1 := ⟨k - 1, by omega⟩
        have Hx := Lib.hid (Hg.out (j + 1))
        generalize rs.getD (j + 1) (0, 0) = x at *
        obtain ⟨x1, x2⟩ := x
        have Hl := Lib.hid (show (cx qs).length ≤ 1099511627776 by simp; omega)
        have Hqs := Lib.hid hqs
        have Hb := Lib.hid hbel
        have j0 : (0 : Int) ≤ (j : Int) := by omega
        clear hqs hbel hql xp xr fr sz
        go_wp2_with fail
        (go_at_call 125; ((with_reducible refine (scale_spec (x1, x2) _ _).mono ?_); rintro e w' ⟨a, b2, m2, rfl, ha, hb2, rfl⟩))
        have Hab := Lib.hid (show nc (a, b2) = slopeG F j by
          unfold nc at ha hb2 ⊢
          rw [ha, hb2]
          unfold slopeG
          rw [Hx.out]
          rfl)
        clear ha hb2
        go_wp2_with (at_builtin; go_must (refine wpList_pushV (.complex .f32 0 0) 8 hrow infoC rfl rfl (by decide) rfl _ _ rfl Tryz.underlying25 Hl.out (by omega) rfl rfl rfl rfl rfl rfl ?_); intro v1 w1 hr1 hb1 hg1 ho1)
        go_roundw
        case rel => exact ⟨j + 2, qs ++ [(a, b2)], by omega, by omega, by go_num, by rw [← cx_push]; exact hr1, by rw [List.map_append, Hqs.out]; simp only [Nat.add_sub_cancel, List.map_cons, List.map_nil, Hab.out]; exact (slope_succ F j).symm, Hb.out.trans hb1⟩
        case measure => simp [intOf]; omega
      · obtain rfl : k = n + 1 := by omega
        rw [Nat.add_sub_cancel] at hql hqs
        have lr : w.heap.size + 1 < W.heap.size := by omega
        have xr2 := (hbel.cell (p := ⟨w.heap.size + 1, 0, none⟩) lr).trans xr
        have fr2 := (hbel.frozen (p := ⟨w.heap.size + 1, 0, none⟩) lr).trans fr
        have BB := Lib.hid (show Below w.heap.size w wr from B0.out.trans (hbel.mono (by omega)))
        have lr2 : w.heap.size + 1 < wr.heap.size := by omega
        clear xp xr fr
        by_cases h0 : n = 0
        · subst h0
          obtain rfl : qs = [] := by simpa using hql
          have HS := Lib.hid (show slopeF F = [(0, 0)] by unfold slopeF; rw [HF.out]; rfl)
          obtain ⟨ao, cap2, rfl, _⟩ := hrow.rd.shape
          have Hl := Lib.hid (show (cx []).length ≤ 1099511627776 by simp)
          simp only [cx_length, List.length_nil] at hrow ⊢
          clear hqs hql
          go_wp2_with (at_builtin; go_must (refine wpList_pushV (.complex .f32 0 0) 8 hrow infoC rfl rfl (by decide) rfl _ _ rfl Tryz.underlying25 Hl.out (by omega) rfl rfl rfl rfl rfl rfl ?_); intro v1 w1 hr1 hb1 hg1 ho1)
          have Hq1 := Lib.hid (show RowV 32 w1 W.heap.size v1 (cx [(0, 0)]) from hr1)
          replace xr2 := (World.cell?_of_block (w := wr) (w' := w1) (a := ⟨w.heap.size + 1, 0, none⟩) (hg1.block _ lr2 (fun e => by have h1 := (hrow.lt (w.heap.size + 1) e.symm).1; have h2 := Sz.out; omega))).trans xr2
          replace fr2 : w1.frozen? ⟨w.heap.size + 1, 0, none⟩ = false := by
            have hb := hg1.block (w.heap.size + 1) lr2 (fun e => by have h1 := (hrow.lt (w.heap.size + 1) e.symm).1; have h2 := Sz.out; omega)
            have h2 := fr2
            simp only [World.frozen?, hb] at h2 ⊢
            exact h2
          replace lr2 : w.heap.size + 1 < w1.heap.size := Nat.lt_of_lt_of_le lr2 hg1.size
          replace BB := Lib.hid (show Below w.heap.size w w1 from BB.out.trans (hb1.mono (by omega)))
          clear hr1 hb1 hg1 ho1 hrow
          obtain ⟨ao5, cap5, rfl, _⟩ := Hq1.out.rd.shape
          have HS2 := Lib.hid (show ([(0, 0)] : List C2).map nc = slopeF F by rw [HS.out]; simp [nc, nrm0])
          go_wp2_with fail
          (go_at_call 25; ((with_reducible refine (give_spec _ [(0, 0)] _ Hq1.out.rd (by simp) (by simp)).mono ?_); rintro e w3 ⟨v3, ts, rfl, hts, ho2, hb3⟩))
          rw [HS2.out] at hts ⊢
          replace xr2 := (hb3.cell (p := ⟨w.heap.size + 1, 0, none⟩) lr2).trans xr2
          replace fr2 := (hb3.frozen (p := ⟨w.heap.size + 1, 0, none⟩) lr2).trans fr2
          replace BB := Lib.hid (show Below w.heap.size w w3 from BB.out.trans (hb3.mono BB.out.size))
          replace ho2 := ho2.mono (B' := w.heap.size + 2) (Nat.succ_le_of_lt lr2)
          replace lr2 : w.heap.size + 1 < w3.heap.size := Nat.lt_of_lt_of_le lr2 hb3.size
          clear hb3
          generalize polyF (slopeF F) = G at *
          obtain ⟨ao3, cap3, rfl, _⟩ := ho2.rd.shape
          simp only [cx_length] at ho2 ⊢
          have Ho2 := Lib.hid ho2
          clear ho2
          go_wp2_with fail
          (try simp only [Exit.inBlock, Exit.then]); refine bodyPost_ret (by simp [results, Tryz.results120, go_sem, *]; try rfl) rfl ?_
          exact ⟨_, ts, rfl, hts, OwV.setOther (g := w.heap.size + 1) (j := 0) (Ho2.out.mono (by omega)) (.inr (by intro e; have := (Ho2.out.lt _ e).1; omega)) _, by have h := BB.out; (repeat' (first | (with_reducible exact Below.refl _ _) | (with_reducible assumption) | (with_reducible refine Below.alloc ?_ ?_ _) | (with_reducible refine Below.setCell ?_ ?_ _) | (with_reducible refine below_drewN ?_ _) | (with_reducible refine Below.via (by assumption) ?_ ?_) | go_size))⟩
        · have HS2 := Lib.hid (show qs.map nc = slopeF F by rw [hqs]; unfold slopeF; rw [HF.out, if_neg (by omega), Nat.add_sub_cancel])
          obtain ⟨ao, cap2, rfl, _⟩ := hrow.rd.shape
          have Hq1 := Lib.hid hrow.rd
          rw [cx_length, hql] at Hq1 ⊢
          have hz : ((n : Int) == 0) = false := by simp; omega
          have hne : qs ≠ [] := by rintro rfl; simp at hql; omega
          have hl17 : qs.length ≤ 17 := by omega
          clear hrow hqs hql
          go_wp2_with fail
          (go_at_call 25; ((with_reducible refine (give_spec _ qs _ Hq1.out hne hl17).mono ?_); rintro e w3 ⟨v3, ts, rfl, hts, ho2, hb3⟩))
          rw [HS2.out] at hts ⊢
          replace xr2 := (hb3.cell (p := ⟨w.heap.size + 1, 0, none⟩) lr2).trans xr2
          replace fr2 := (hb3.frozen (p := ⟨w.heap.size + 1, 0, none⟩) lr2).trans fr2
          replace BB := Lib.hid (show Below w.heap.size w w3 from BB.out.trans (hb3.mono BB.out.size))
          replace ho2 := ho2.mono (B' := w.heap.size + 2) (Nat.succ_le_of_lt lr2)
          replace lr2 : w.heap.size + 1 < w3.heap.size := Nat.lt_of_lt_of_le lr2 hb3.size
          clear hb3
          generalize polyF (slopeF F) = G at *
          obtain ⟨ao3, cap3, rfl, _⟩ := ho2.rd.shape
          simp only [cx_length] at ho2 ⊢
          have Ho2 := Lib.hid ho2
          clear ho2
          go_wp2_with fail
          (try simp only [Exit.inBlock, Exit.then]); refine bodyPost_ret (by simp [results, Tryz.results120, go_sem, *]; try rfl) rfl ?_
          exact ⟨_, ts, rfl, hts, OwV.setOther (g := w.heap.size + 1) (j := 0) (Ho2.out.mono (by omega)) (.inr (by intro e; have := (Ho2.out.lt _ e).1; omega)) _, by have h := BB.out; (repeat' (first | (with_reducible exact Below.refl _ _) | (with_reducible assumption) | (with_reducible refine Below.alloc ?_ ?_ _) | (with_reducible refine Below.setCell ?_ ?_ _) | (with_reducible refine below_drewN ?_ _) | (with_reducible refine Below.via (by assumption) ?_ ?_) | go_size))⟩

end Go.Proofs.YtfnhddaofllniaaGreat

/- Polynomials with roots, and one Newton step, of the program. Conditions: polynomials of 1 to 17 terms; what is narrowed fits float32. -/
namespace Go.Proofs.YtfnhddaofllniaaGreat
set_option linter.unusedSimpArgs false
set_option linter.unusedVariables false
open Go Go.RowKit

def rootedF (F : List C2) : Bool := validF F && decide (2 ≤ F.length)

set_option maxRecDepth 100000 in
theorem rooted_impl (v : Value) (rs : List C2) (w : World) (hv : RdV w v (cx rs)) (h1 : 1 ≤ rs.length) (h2 : rs.length ≤ 17) :
    Calls Tryz.prog 27 #[.agg #[v]] w (RB (rootedF (rs.map nc)) w) := by
  obtain ⟨ao, cap, rfl, _⟩ := hv.shape
  rw [cx_length] at hv ⊢
  have Hv := Lib.hid hv
  clear hv
  cases hval : validF (rs.map nc)
  · have H := Lib.hid (show rootedF (rs.map nc) = false by simp [rootedF, hval])
    rw [H.out]
    go_enter Tryz.func27, Tryz.ntmps27
    go_wp2_with (go_at_call 40; go_must (refine (valid_impl _ rs _ (Hv.out.alloc _) h1 h2).mono ?_); rintro e w' ⟨rfl, hb1⟩; obtain ⟨chb1, fhb1⟩ := bcell hb1; have zhb1 := hb1.size; (try simp only [World.size_alloc, World.size_setCell, World.size_drew] at zhb1); (try have lhb1 : w.heap.size < w'.heap.size := by omega))
    go_ret
    exact ⟨by simp, by (repeat' (first | (with_reducible exact Below.refl _ _) | (with_reducible assumption) | (with_reducible refine Below.alloc ?_ ?_ _) | (with_reducible refine Below.setCell ?_ ?_ _) | (with_reducible refine Below.drew ?_) | (with_reducible refine Below.via (by assumption) ?_ ?_) | go_size))⟩
  · by_cases hl : 2 ≤ rs.length
    · have H := Lib.hid (show rootedF (rs.map nc) = true by simp [rootedF, hval, hl])
      rw [H.out]
      have hl3 : (1 : Int) < (rs.length : Int) := by omega
      go_enter Tryz.func27, Tryz.ntmps27
      go_wp2_with (go_at_call 40; go_must (refine (valid_impl _ rs _ (Hv.out.alloc _) h1 h2).mono ?_); rintro e w' ⟨rfl, hb1⟩; obtain ⟨chb1, fhb1⟩ := bcell hb1; have zhb1 := hb1.size; (try simp only [World.size_alloc, World.size_setCell, World.size_drew] at zhb1); (try have lhb1 : w.heap.size < w'.heap.size := by omega))
      go_ret
      exact ⟨by simp [hl3, hl]; try omega, by (repeat' (first | (with_reducible exact Below.refl _ _) | (with_reducible assumption) | (with_reducible refine Below.alloc ?_ ?_ _) | (with_reducible refine Below.setCell ?_ ?_ _) | (with_reducible refine Below.drew ?_) | (with_reducible refine Below.via (by assumption) ?_ ?_) | go_size))⟩
    · have H := Lib.hid (show rootedF (rs.map nc) = false by simp [rootedF, hl])
      rw [H.out]
      have hl3 : ¬ ((1 : Int) < (rs.length : Int)) := by omega
      go_enter Tryz.func27, Tryz.ntmps27
      go_wp2_with (go_at_call 40; go_must (refine (valid_impl _ rs _ (Hv.out.alloc _) h1 h2).mono ?_); rintro e w' ⟨rfl, hb1⟩; obtain ⟨chb1, fhb1⟩ := bcell hb1; have zhb1 := hb1.size; (try simp only [World.size_alloc, World.size_setCell, World.size_drew] at zhb1); (try have lhb1 : w.heap.size < w'.heap.size := by omega))
      go_ret
      exact ⟨by simp [hl3, hl]; try omega, by (repeat' (first | (with_reducible exact Below.refl _ _) | (with_reducible assumption) | (with_reducible refine Below.alloc ?_ ?_ _) | (with_reducible refine Below.setCell ?_ ?_ _) | (with_reducible refine Below.drew ?_) | (with_reducible refine Below.via (by assumption) ?_ ?_) | go_size))⟩

set_option maxRecDepth 100000 in
theorem rooted_spec (p : Nat) (v : Value) (rs : List C2) (w : World) (hp : w.cell? ⟨p, 0, none⟩ = some v) (hv : RdV w v (cx rs)) (h1 : 1 ≤ rs.length) (h2 : rs.length ≤ 17) :
    Calls Tryz.prog 35 #[.pointer (some ⟨p, 0, none⟩)] w (RetB (rootedF (rs.map nc)) w) := by
  obtain ⟨ao, cap, rfl, _⟩ := hv.shape
  rw [cx_length] at hv hp
  have P := Lib.hid (is_spec p (.slice ao rs.length cap) rs w hp hv h1 h2)
  clear hv
  cases hval : validF (rs.map nc)
  · have H := Lib.hid (show rootedF (rs.map nc) = false by simp [rootedF, hval])
    rw [H.out]
    go_enter Tryz.func35, Tryz.ntmps35
    go_wp2_with fail
    refine P.out.mono ?_
    rintro e w1 ⟨m, rfl, rfl⟩
    rw [hval]
    go_wp2_with fail
    go_ret
    exact ⟨_, by simp, rfl⟩
  · by_cases hl : 2 ≤ rs.length
    · have H := Lib.hid (show rootedF (rs.map nc) = true by simp [rootedF, hval, hl])
      rw [H.out]
      have hl3 : (2 : Int) ≤ (rs.length : Int) := by omega
      go_enter Tryz.func35, Tryz.ntmps35
      go_wp2_with fail
      refine P.out.mono ?_
      rintro e w1 ⟨m, rfl, rfl⟩
      rw [hval]
      go_wp2_with fail
      go_ret
      exact ⟨_, by simp [hl3, hl]; try omega, rfl⟩
    · have H := Lib.hid (show rootedF (rs.map nc) = false by simp [rootedF, hl])
      rw [H.out]
      have hl3 : ¬ ((2 : Int) ≤ (rs.length : Int)) := by omega
      go_enter Tryz.func35, Tryz.ntmps35
      go_wp2_with fail
      refine P.out.mono ?_
      rintro e w1 ⟨m, rfl, rfl⟩
      rw [hval]
      go_wp2_with fail
      go_ret
      exact ⟨_, by simp [hl3, hl]; try omega, rfl⟩

abbrev quoFit (x y : C2) : Prop := fit1 (fop .quo .f64 (timesF x (conjC y)).1 (powerF y)) ∧ fit1 (fop .quo .f64 (timesF x (conjC y)).2 (powerF y))
/-- One Newton step. -/
def stepF (F : List C2) (z : C2) : C2 × Bool :=
  if (rootedF F && finC z) = true then
    (if (polyAtF F z).2 = true then
      (if zeroC (polyAtF F z).1 = true then (z, true)
      else if (slopePolyF F).2 = true then
        (if ((polyAtF (slopePolyF F).1 z).2 && finC (quoC (polyAtF F z).1 (polyAtF (slopePolyF F).1 z).1)) = true then finiteX (subC z (quoC (polyAtF F z).1 (polyAtF (slopePolyF F).1 z).1)) else ((0, 0), false))
      else ((0, 0), false))
    else ((0, 0), false))
  else ((0, 0), false)
/-- Nothing is too great on the way. -/
def safeStep (F : List C2) (z : C2) : Prop := safeN F z ∧ safeN (slopePolyF F).1 z ∧ quoFit (polyAtF F z).1 (polyAtF (slopePolyF F).1 z).1

theorem polyF_pos {F : List C2} (h : 1 ≤ F.length) (h2 : (polyF F).2 = true) : 1 ≤ (polyF F).1.length := by
  unfold polyF at h2 ⊢
  split
  · have := trimN_pos F (n := F.length) (by omega)
    simp only [trimF_length]; omega
  · rename_i hh; simp [hh] at h2

end Go.Proofs.YtfnhddaofllniaaGreat
