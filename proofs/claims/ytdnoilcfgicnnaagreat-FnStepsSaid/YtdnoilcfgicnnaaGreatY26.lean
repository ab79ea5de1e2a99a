/- A root that is left: the quotient and the rest, of the program. Conditions: a polynomial with roots, a finite number; what is narrowed fits float32; both results are valid. -/
import Derived.Test.YtdnoilcfgicnnaaGreatY25
import Derived.Deep.DeepCutAuto
namespace Go.Proofs.YtdnoilcfgicnnaaGreat
set_option linter.unusedSimpArgs false
set_option linter.unusedVariables false
open Go Go.RowKit

theorem rd_c2 {w : World} {s : Nat} (hs : s = w.heap.size) (y z : C2) : RdV (w.alloc (.cells #[.complex .f32 y.1 y.2, .complex .f32 z.1 z.2] 36)) (.slice (some ⟨s, 0, none⟩) 2 2) (cx [y, z]) := by
  subst hs
  refine ⟨_, 2, rfl, ⟨Nat.le_refl _, by decide⟩, .inr ⟨w.heap.size, 0, rfl, fun i hi => ?_⟩⟩
  simp at hi
  rcases (by omega : i = 0 ∨ i = 1) with rfl | rfl
  · exact (World.cell?_alloc_new w #[.complex .f32 y.1 y.2, .complex .f32 z.1 z.2] 36 0 : _)
  · exact (World.cell?_alloc_new w #[.complex .f32 y.1 y.2, .complex .f32 z.1 z.2] 36 1 : _)
/-- Two boxes. -/
theorem boxes2 (w : World) (a b : Value) (t : TypeId) {W4 : World} (h : ((w.alloc (.cells #[a] t)).alloc (.cells #[b] t)) = W4) : W4.heap.size = w.heap.size + 2 ∧ Below w.heap.size w W4 ∧ W4.cell? ⟨w.heap.size, 0, none⟩ = some a ∧ W4.cell? ⟨w.heap.size + 1, 0, none⟩ = some b ∧ W4.frozen? ⟨w.heap.size + 1, 0, none⟩ = false ∧ ∀ j u, W4.cell? ⟨w.heap.size + 1, j, none⟩ = some u → j = 0 := by
  subst h
  refine ⟨by simp, by (repeat' (first | (with_reducible exact Below.refl _ _) | (with_reducible assumption) | (with_reducible refine Below.alloc ?_ ?_ _) | (with_reducible refine Below.setCell ?_ ?_ _) | (with_reducible refine Below.drew ?_) | (with_reducible refine Below.via (by assumption) ?_ ?_) | go_size)), ?_, ?_, ?_, ?_⟩
  · go_simp
  · go_simp; try rfl
  · go_simp; try rfl
  · intro j u hj
    have e := World.cell?_alloc_new (w.alloc (.cells #[a] t)) #[b] t j
    rw [World.size_alloc] at e
    rw [e] at hj
    rw [Array.getElem?_eq_some_iff] at hj
    obtain ⟨h, _⟩ := hj
    simpa using h
theorem frozen_out (w : World) (g : Nat) (h : w.heap.size ≤ g) : w.frozen? ⟨g, 0, none⟩ = false := by
  have hn : w.heap[g]? = none := by simp; omega
  simp [World.frozen?, hn]
theorem Below.drew1 {B : Nat} {w w' : World} (h : Below B w w') : Below B w w'.drew := by rw [World.drew_is_drewN]; exact below_drewN h 1
theorem cellZo {w : World} {g k o : Nat} {u : Value} (h : k ≠ g) : (w.setCell ⟨g, 0, none⟩ u).cell? ⟨k, o, none⟩ = w.cell? ⟨k, o, none⟩ := World.cell?_of_block (w := w) (Below.heap_setCell _ _ _ _ h)
def divisorF (z : C2) : List C2 := [(negF z.1, negF z.2), nc (1065353216, 0)]

set_option maxRecDepth 100000 in
set_option maxHeartbeats 2000000 in
theorem leave_impl (v : Value) (rs : List C2) (z : C2) (m : Nat) (w : World) (hv : RdV w v (cx rs)) (hm1 : 1 ≤ m) (hm : rs.length = m + 1) (h3 : m ≤ 15) (hr : rootedF (rs.map nc) = true) (hva : validF (rs.map nc) = true) (hf : finC (nc z) = true)
    (hvb : validF (divisorF (nc z)) = true) (HS : RowKit.Hid (safeDiv (divisorF (nc z)) (rs.map nc) 1 m)) (Q : List C2) (r : C2)
    (HQ : RowKit.Hid (polyF (divSt (divisorF (nc z)) (rs.map nc) 1 m m).2 = (Q, true))) (HR : RowKit.Hid (polyF ((divSt (divisorF (nc z)) (rs.map nc) 1 m m).1.take 1) = ([r], true))) :
    Calls Tryz.prog 18 #[.agg #[v], .complex .f32 z.1 z.2] w fun e w' => ∃ vq a b qs, e = .returned (.tuple #[.agg #[vq], .complex .f32 a b, .bool true]) ∧ qs.map nc = Q ∧ nc (a, b) = r ∧ RdV w' vq (cx qs) ∧ Below w.heap.size w w' := by
  obtain ⟨ao, cap, rfl, _⟩ := hv.shape
  rw [cx_length, hm] at hv ⊢
  have Hv := Lib.hid hv
  have HR1 := Lib.hid hr
  have HF := Lib.hid hf
  have HVA := Lib.hid hva
  have HVB := Lib.hid hvb
  have HM := Lib.hid hm
  have Ha := Lib.hid (show allFinC [z] = finC (nc z) by simp [allFinC])
  have rs1 : 1 ≤ rs.length := by omega
  have rs2 : rs.length ≤ 17 := by omega
  have rs3 : rs.length ≤ 16 := by omega
  clear hv hr hf hva hvb hm
  go_enter Tryz.func18, Tryz.ntmps18
  go_wp2_with fail
  obtain ⟨z4, b4, ca, cc, fc, one4⟩ := boxes2 w (.slice ao (m + 1) cap) (.slice none 0 0) 28 rfl
  have B4 := Lib.hid b4
  generalize hW4 : ((w.alloc (.cells #[.slice ao (m + 1) cap] 28)).alloc (.cells #[.slice none 0 0] 28)) = W4 at *
  have Ca := Lib.hid ca
  have Cc := Lib.hid cc
  have Fc := Lib.hid fc
  have One := Lib.hid one4
  have Hv4 := Lib.hid (Hv.out.below B4.out)
  clear hW4 b4 cc fc one4
  (go_at_call 27; ((with_reducible refine (rooted_impl (.slice ao (m + 1) cap) rs _ Hv4.out rs1 rs2).mono ?_); rintro e w1 ⟨rfl, hb1⟩; rw [HR1.out]))
  have B1 := Lib.hid hb1
  have s1 := hb1.size
  have ca1 := (hb1.cell (p := ⟨w.heap.size, 0, none⟩) (by simp only; omega)).trans Ca.out
  clear hb1 ca
  go_wp2_with fail
  (go_at_call 31; ((with_reducible refine (allFinite_impl _ [z] _ (rd_c1 rfl z) (by simp)).mono ?_); rintro e w2 ⟨rfl, hb2⟩; rw [Ha.out, HF.out]))
  have B2 := Lib.hid ((B1.out.trans ((Below.refl _ _).alloc s1 _)).trans (hb2.mono (by simp; omega)))
  have s2 := B2.out.size
  have ca2 := (B2.out.cell (p := ⟨w.heap.size, 0, none⟩) (by simp only; omega)).trans Ca.out
  clear hb2 ca1 s1
  have HD := Lib.hid (fun (w' : World) (vb : Value) (a b : Nat) (hab : nc (a, b) = (negF (nc z).1, negF (nc z).2)) (h1 : RdV w' (.slice ao (m + 1) cap) (cx rs)) (h2 : RdV w' vb (cx [(a, b), (1065353216, 0)])) =>
    div_impl (.slice ao (m + 1) cap) vb rs [(a, b), (1065353216, 0)] 1 m w' h1 h2 rfl (Nat.le_refl _) hm1 HM.out rs3 (by omega) HVA.out (by rw [List.map_cons, hab]; exact HVB.out) (by rw [List.map_cons, hab]; exact HS) Q [r] (by rw [List.map_cons, hab]; exact HQ) (by rw [List.map_cons, hab]; exact HR))
  have B2u := B2.out
  have f20 : w2.frozen? ⟨w2.heap.size, 0, none⟩ = false := frozen_out _ _ (by omega)
  have f21 : w2.frozen? ⟨w2.heap.size + 1, 0, none⟩ = false := frozen_out _ _ (by omega)
  have f22 : w2.frozen? ⟨w2.heap.size + 1 + 1, 0, none⟩ = false := frozen_out _ _ (by omega)
  have n1 : w2.heap.size < w2.heap.size + 1 + 1 := by omega
  have n2 : w2.heap.size < w2.heap.size + 1 + 1 + 1 := by omega
  have n3 : w2.heap.size + 1 < w2.heap.size + 1 + 1 + 1 := by omega
  have n4 : w2.heap.size ≠ w2.heap.size + 1 + 1 := by omega
  have c20 : ∀ m : Nat, ((w2.drewN m).alloc (.cells #[.slice none 0 0] 28)).cell? ⟨w2.heap.size, 0, none⟩ = some (.slice none 0 0) := fun m => World.cell?_alloc_new (w2.drewN m) #[.slice none 0 0] 28 0
  have g20 : ∀ m : Nat, ((w2.drewN m).alloc (.cells #[.slice none 0 0] 28)).frozen? ⟨w2.heap.size, 0, none⟩ = false := fun m => World.frozen?_alloc_new (w2.drewN m) #[.slice none 0 0] 28 0
  go_upto_region 3 with fail
  go_cut [7, 8, 9] (fun v7 v8 v9 wx => Held Q r w2 v7 v8 v9 wx)
  case first =>
    go_region_held3 (fun w' => w'.cell? ⟨w.heap.size, 0, none⟩ = some (.slice ao (m + 1) cap)) ((first | assumption | (refine (Below.cell (B := w2.heap.size) (w := w2) ?_ ?_).trans ca2; (repeat' (first | (with_reducible exact Below.refl _ _) | (with_reducible assumption) | (with_reducible refine below_drewN ?_ _) | (with_reducible refine Below.drew1 ?_) | (with_reducible refine Below.alloc ?_ ?_ _) | (with_reducible refine Below.setCell ?_ ?_ _) | (with_reducible refine Below.trans ?_ (Below.mono hb5 ?_)) | omega | (simp at z5 ⊢; omega) | (simp at z5; omega) | (simp <;> omega))); done)))
      (first
        | (go_at_call 52; ((with_reducible refine (turned_impl z _).mono ?_); rintro e w' ⟨a, b, m3, rfl, ha, hb, rfl⟩; have Hab := Lib.hid (show nc (a, b) = (negF (nc z).1, negF (nc z).2) from Prod.ext ha hb); clear ha hb))
        | (go_at_call 51; ((with_reducible refine (HD.out _ _ a b Hab.out (Hv4.out.below ?_) ?_).mono ?_); (focus ((repeat' (first | (with_reducible exact Below.refl _ _) | (with_reducible assumption) | (with_reducible refine Below.alloc ?_ ?_ _) | (with_reducible refine Below.setCell ?_ ?_ _) | (with_reducible refine below_drewN ?_ _) | (with_reducible refine Below.via (by assumption) ?_ ?_) | go_size)); done)); (focus first | exact rd_c2 rfl (a, b) (1065353216, 0) | exact (rd_c2 rfl (a, b) (1065353216, 0)).alloc _ | exact ((rd_c2 rfl (a, b) (1065353216, 0)).alloc _).alloc _ | (refine rd_c2 ?_ (a, b) (1065353216, 0); simp; done) | (refine RdV.alloc (rd_c2 ?_ (a, b) (1065353216, 0)) _; simp; done) | (refine RdV.alloc (RdV.alloc (rd_c2 ?_ (a, b) (1065353216, 0)) _) _; simp; done)); rintro e w5 ⟨vq, vr, qs, ts, rfl, hqs, hts, hq5, hr5, hb5⟩; obtain ⟨aq, cq, rfl, _⟩ := hq5.rd.shape; obtain ⟨ar, cr, rfl, _⟩ := hr5.rd.shape; have z5 := hb5.size; (try simp only [World.size_alloc, World.size_setCell, World.size_drew, World.heap_drewN] at z5); obtain ⟨ch5, fh5⟩ := bcell hb5; (first | (have l5 : w2.heap.size + 1 + 1 < w5.heap.size := z5; have l6 : w2.heap.size + 1 < w5.heap.size := Nat.lt_of_succ_lt l5; have l7 : w2.heap.size < w5.heap.size := Nat.lt_of_succ_lt l6) | (have l5 : w2.heap.size + 1 < w5.heap.size := z5; have l6 : w2.heap.size < w5.heap.size := Nat.lt_of_succ_lt l5) | (have l5 : w2.heap.size < w5.heap.size := z5) | skip))))
    all_goals (go_wp2_with fail)
    all_goals go_meet
    all_goals (clear HD HS HQ HR HVA HVB Hv HR1 HF HM Ha B1 B2 Hv4 c20 g20 f20 f21 f22 n1 n2 n3 n4 ch5 fh5 Ca Cc Fc B4)
    all_goals (try rw [cx_length] at hq5)
    all_goals (try rw [cx_length] at hr5)
    all_goals
      have hbw : Below w2.heap.size w2 w5 := by
        refine Below.trans ?_ (Below.mono hb5 ?_)
        · (repeat' (first | (with_reducible exact Below.refl _ _) | (with_reducible refine below_drewN ?_ _) | (with_reducible refine Below.drew1 ?_) | (with_reducible refine Below.alloc ?_ ?_ _) | (with_reducible refine Below.setCell ?_ ?_ _) | omega | (simp; omega) | (simp; done)))
        · (first | (simp; done) | (simp; omega))
    all_goals first
      | (with_reducible refine endA hqs hts hq5 hr5 hbw ?_ <;> (first | omega | (simp only [World.size_alloc, World.heap_drewN, World.size_drew]; first | done | omega)))
      | (with_reducible refine endB hqs hts hq5 hr5 hbw ?_ <;> (first | omega | (simp only [World.size_alloc, World.heap_drewN, World.size_drew]; first | done | omega)))
      | (with_reducible refine endEw hqs hts hq5 hr5 hbw hb5 ?_ ?_ ?_ ?_ ?_ ?_ ?_ <;> (first | omega | (simp only [World.size_alloc, World.heap_drewN, World.size_drew]; first | done | omega) | ((repeat' (first | ((with_reducible refine celAt ?_); ((first | (simp only [World.size_alloc, World.heap_drewN, World.size_drew]; first | done | omega) | omega); done)) | (with_reducible refine celOld ?_ _) | (with_reducible refine celDN ?_ _) | (with_reducible refine celD ?_))); done)))
      | (with_reducible refine endCw hqs hts hq5 hr5 hbw hb5 ?_ ?_ ?_ <;> (first | omega | (simp only [World.size_alloc, World.heap_drewN, World.size_drew]; first | done | omega) | ((repeat' (first | ((with_reducible refine celAt ?_); ((first | (simp only [World.size_alloc, World.heap_drewN, World.size_drew]; first | done | omega) | omega); done)) | (with_reducible refine celOld ?_ _) | (with_reducible refine celDN ?_ _) | (with_reducible refine celD ?_))); done)))
      | (with_reducible refine endDw hqs hts hq5 hr5 hbw hb5 ?_ ?_ ?_ <;> (first | omega | (simp only [World.size_alloc, World.heap_drewN, World.size_drew]; first | done | omega) | ((repeat' (first | ((with_reducible refine celAt ?_); ((first | (simp only [World.size_alloc, World.heap_drewN, World.size_drew]; first | done | omega) | omega); done)) | (with_reducible refine celOld ?_ _) | (with_reducible refine celDN ?_ _) | (with_reducible refine celD ?_))); done)))
  case rest =>
    obtain ⟨g7, g8, aq, ar, cq, cr, qs, ts, rfl, rfl, rfl, c7, c8, hqs, hts, rq, rt, hbc, hg7, hg8⟩ := hcut
    have lt1 : ts.length = 1 := by have := congrArg List.length hts; simpa using this
    obtain ⟨t, rfl⟩ := List.length_eq_one_iff.1 lt1
    rcases rt.openC with ⟨h, _⟩ | ⟨b, off, cap', hve, hb, hcp, hc⟩
    · cases h
    simp only [Value.slice.injEq] at hve
    obtain ⟨rfl, _, rfl⟩ := hve
    have ce := hc 0 (by simp)
    simp only [List.getElem_cons_zero, Nat.add_zero] at ce
    have Rq := Lib.hid rq
    have Hq := Lib.hid hqs
    have Ht := Lib.hid hts
    have BC := Lib.hid hbc
    have ccx : wc.cell? ⟨w.heap.size + 1, 0, none⟩ = some (.slice none 0 0) := (hbc.cell (p := ⟨w.heap.size + 1, 0, none⟩) (by simp only; omega)).trans ((B2.out.cell (p := ⟨w.heap.size + 1, 0, none⟩) (by simp only; omega)).trans Cc.out)
    have fcx : wc.frozen? ⟨w.heap.size + 1, 0, none⟩ = false := by
      rw [(bcell hbc).2 _ _ (by omega), (bcell B2.out).2 _ _ (by omega)]; exact Fc.out
    have hbb : b ≠ w.heap.size + 1 := by
      rintro rfl
      have e := (hbc.cell (p := ⟨w.heap.size + 1, off, none⟩) (by simp only; omega)).trans (B2.out.cell (p := ⟨w.heap.size + 1, off, none⟩) (by simp only; omega))
      rw [ce] at e
      obtain rfl := One.out off _ e.symm
      rw [ccx] at ce
      cases ce
    have h71 : g7 ≠ w.heap.size + 1 := by omega
    have h81 : g8 ≠ w.heap.size + 1 := by omega
    have BW := Lib.hid (show Below w.heap.size w wc from (B4.out.trans (B2.out.mono (by omega))).trans (hbc.mono (by omega)))
    clear hbc hqs hts rq rt hc HD HS HQ HR f20 f21 f22 n1 n2 n3 n4 c20 g20 ca2 lt1
    go_step
    go_wp2_with fail
    go_region_held3 (fun w' => w'.cell? ⟨g7, 0, none⟩ = some (.slice aq qs.length cq) ∧ w'.cell? ⟨g8, 0, none⟩ = some (.slice (some ⟨b, off, none⟩) [t].length cr) ∧ w'.cell? ⟨b, off, none⟩ = some (.complex .f32 t.1 t.2)) (((try dsimp only); (refine And.intro ?_ (And.intro ?_ ?_)) <;> (simp only [World.cell?_drew]; first | assumption | (rw [cellZo hbb]; assumption) | (rw [cellZo h71]; assumption) | (rw [cellZo h81]; assumption)))) (fail)
    go_wp2_with fail
    have OF := (own_set (j := 0) Rq.out (show w.heap.size + 1 < w2.heap.size by omega) (.slice aq qs.length cq)).below (below_drewN (Below.refl _ _) 1)
    have RF := Lib.hid (show RdV (wc.setCell ⟨w.heap.size + 1, 0, none⟩ (.slice aq qs.length cq)).drew (.slice aq qs.length cq) (cx qs) from OF.rd)
    have BF := Lib.hid (show Below w.heap.size w (wc.setCell ⟨w.heap.size + 1, 0, none⟩ (.slice aq qs.length cq)).drew from below_drewN (BW.out.setCell (p := ⟨w.heap.size + 1, 0, none⟩) (by simp only; omega) (.slice aq qs.length cq)) 1)
    have cf : (wc.setCell ⟨w.heap.size + 1, 0, none⟩ (.slice aq qs.length cq)).drew.cell? ⟨w.heap.size + 1, 0, none⟩ = some (.slice aq qs.length cq) := by
      rw [World.cell?_drew]; exact setCell_self ccx _
    clear OF
    generalize (wc.setCell ⟨w.heap.size + 1, 0, none⟩ (.slice aq qs.length cq)).drew = WF at *
    refine bodyPost_ret (by simp [results, Tryz.results18, go_sem, cf]; try rfl) rfl ?_
    exact ⟨_, _, _, qs, rfl, Hq.out, List.cons.inj Ht.out |>.1, RF.out, BF.out⟩
end Go.Proofs.YtdnoilcfgicnnaaGreat
