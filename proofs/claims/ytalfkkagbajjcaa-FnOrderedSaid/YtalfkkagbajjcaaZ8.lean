/- ClustersOfRoots. Conditions: 1 to 16 finite numbers, a finite distance that is not below 0; distances fit float32. -/
import Derived.Test.YtalfkkagbajjcaaZ7
import Derived.Maps.OwnSet
import Derived.Lib.MinMax
import Derived.ProofKit
import Derived.OpenShut
import Derived.Deep.Slices
import Derived.ChangeSlices
import Derived.WalkSmall
import Derived.Test.YtalfkkagbajjcaaZ1
namespace Go.Proofs.Ytalfkkagbajjcaa
set_option linter.unusedSimpArgs false
set_option linter.unusedVariables false
open Go Go.RowKit

def closeF (L : List C2) (near : Nat) (i k : Nat) : Bool := fcmp .leq .f32 (longF (subC (L.getD i (0, 0)) (L.getD k (0, 0)))) near
theorem infoInt : (Try.prog.info? 3).map (fun i => (i.zero, i.size, i.bytes)) = some (some (.int .i64 0), 1, 8) := by kernel_rfl
def initC (n i : Nat) : List Int := (List.range n).map (fun k : Nat => if k < i then (k : Int) else 0)
theorem initC_length (n i : Nat) : (initC n i).length = n := by simp [initC]
theorem initC_zero (n : Nat) : List.replicate n (Value.int .i64 0) = gi (initC n 0) := by
  apply List.ext_getElem?
  intro k
  simp only [gi, initC, List.getElem?_map, List.getElem?_replicate]
  by_cases h : k < n
  · simp [h]
  · simp [h, Nat.not_lt.1 h]
theorem initC_set {n i : Nat} (h : i < n) : (gi (initC n i)).set i (.int .i64 (i : Int)) = gi (initC n (i + 1)) := by
  apply List.ext_getElem?
  intro k
  rw [List.getElem?_set]
  by_cases hk : i = k
  · subst hk; simp [gi, initC, h]
  · rw [if_neg hk]
    simp only [gi, initC, List.getElem?_map]
    by_cases h2 : k < n
    · have : (k < i) = (k < i + 1) := by apply propext; omega
      simp [h2, this]
    · simp [h2]
theorem initC_full (n : Nat) : initC n n = firstI n := by
  unfold initC firstI
  apply List.map_congr_left
  intro k hk
  rw [if_pos (List.mem_range.1 hk)]
theorem gi_set (C : List Int) (j : Nat) (t : Int) : (gi C).set j (.int .i64 t) = gi (C.set j t) := by simp [gi, List.map_set]
theorem gi_get {C : List Int} {j : Nat} (h : j < C.length) : (gi C)[j]? = some (.int .i64 (C.getD j 0)) := by simp [gi, List.getD, h]

theorem own_cell {e : TypeId} {w : World} {B U N : Nat} {C : List Int} (h : OwV e w B (.slice (some ⟨U, 0, none⟩) N N) (gi C)) {j : Nat} (hj : j < C.length) : w.cell? ⟨U, j, none⟩ = some (.int .i64 (C.getD j 0)) := by
  obtain ⟨g, cap, hv, _, _, _, _, hcell, _⟩ := h.open (by rw [← List.length_pos_iff, gi_length]; omega)
  simp only [Value.slice.injEq, Option.some.injEq, Addr.mk.injEq, and_true, true_and] at hv
  rw [hv.1, hcell j (by simpa using hj), gi_get hj]
theorem own_frozen {e : TypeId} {w : World} {B U N : Nat} {C : List Int} (h : OwV e w B (.slice (some ⟨U, 0, none⟩) N N) (gi C)) (j : Nat) (hC : C ≠ []) : w.frozen? ⟨U, j, none⟩ = false := by
  obtain ⟨g, cap, hv, _, _, _, _, _, hfz⟩ := h.open (by rw [← List.length_pos_iff, gi_length]; exact List.length_pos_iff.2 hC)
  simp only [Value.slice.injEq, Option.some.injEq, Addr.mk.injEq, and_true, true_and] at hv
  rw [hv.1]; exact hfz j
theorem own_len {e : TypeId} {w : World} {B U N : Nat} {C : List Int} (h : OwV e w B (.slice (some ⟨U, 0, none⟩) N N) (gi C)) : C.length = N := by
  rcases h with ⟨h, _⟩ | ⟨g, cap, cur, h, _⟩
  · simp at h
  · simp only [Value.slice.injEq, gi_length] at h; exact h.2.1.symm
/-- The calls of the region: the difference, and its length. -/
def GC (D : C2) (F : Nat) (f : FuncId) (_ : Array Value) (u : Value) : Prop :=
  (f = 25 ∧ ∃ a b, u = .complex .f32 a b ∧ nc (a, b) = D) ∨ (f = 24 ∧ ∃ a, u = .float .f32 a ∧ nrm .f32 a = F)

/-- The map's entries: the numbers that have come, each with its place. -/
def MapR (D : DataW Unit) (S : List Int) : Prop := Maps.Tidy D ∧ (∀ a, Maps.has D (.int .i64 a) = decide (a ∈ S)) ∧ (∀ a, a ∈ S → D.atKey (.int .i64 a) (.lit (.int .i64 0)) = .lit (.int .i64 (S.idxOf a))) ∧ Maps.size D = S.length
theorem mapR_nil : MapR (.map []) [] := ⟨Maps.tidy_empty, fun a => by simp [Maps.has_eq], fun a h => by simp at h, rfl⟩
theorem mapR_put {D : DataW Unit} {S : List Int} (h : MapR D S) {a : Int} (ha : a ∉ S) : MapR (D.put (.int .i64 a) (.lit (.int .i64 S.length))) (S ++ [a]) := by
  obtain ⟨h0, h1, h2, h3⟩ := h
  have hk : WideAt.IsKeyLit (.int .i64 a) := trivial
  refine ⟨h0.put hk _, fun b => ?_, fun b hb => ?_, ?_⟩
  · by_cases hab : b = a
    · subst hab; rw [Maps.has_put_same h0.isMap hk]; simp
    · rw [Maps.has_put_other (by simpa using hab), h1]; simp [hab]
  · by_cases hab : b = a
    · subst hab
      rw [Maps.atKey_put_same h0.isMap hk, List.idxOf_append, if_neg ha]; simp
    · have hbS : b ∈ S := by simpa [hab] using hb
      rw [Maps.atKey_put_other (by simpa using hab), h2 b hbS, List.idxOf_append, if_pos hbS]
  · rw [Maps.size_put h0, h1]; simp [ha, h3]
theorem lawK : Maps.Keyed Try.prog 3 := Maps.int_keyed Try.underlying3
theorem zeroE (w : World) : (zeroValue 2).run Try.prog w = .ok (.int .i64 0) w := by kernel_rfl

set_option maxRecDepth 100000 in
set_option maxHeartbeats 4000000 in
theorem clusters_impl (v : Value) (ls : List C2) (near : Nat) (w : World) (hv : RdV w v (cx ls)) (h1 : 1 ≤ ls.length) (h2 : ls.length ≤ 16) (hlf : allFinC ls = true)
    (hnf : finF (nrm .f32 near) = true) (hnn : fcmp .lss .f32 (nrm .f32 near) (nrm .f32 0) = false)
    (Hf : RowKit.Hid (∀ i k, i < ls.length → k < ls.length → fit1 (sqF (powerF (subC (nc (ls.getD i (0, 0))) (nc (ls.getD k (0, 0)))))))) :
    Calls Try.prog 9 #[v, .float .f32 near] w fun e w' => ∃ v', e = .returned (.tuple #[v', .bool true]) ∧
      OwV 2 w' w.heap.size v' (gi ((List.range ls.length).map (outC (clO (closeF (ls.map nc) (nrm .f32 near)) ls.length ls.length)))) ∧ Below w.heap.size w w' := by
  have hmm := @run_makeMap Try.prog
  have AR := Lib.hid (fun w hv => areRoots_impl v ls w hv h1 h2)
  rw [hlf] at AR
  have Hv := Lib.hid hv
  rcases hv.openC with ⟨rfl, _⟩ | ⟨b1, o1, cap1, rfl, hb1, _, hc1⟩
  · simp at h1
  have Hc1 := Lib.hid (show ∀ i, i < ls.length → w.cell? ⟨b1, o1 + i, none⟩ = some (.complex .f32 (ls.getD i (0, 0)).1 (ls.getD i (0, 0)).2) from fun i hi => by
    rw [hc1 i hi]; simp [List.getD, hi])
  have HCL := Lib.hid (show ∀ i k, closeF (ls.map nc) (nrm .f32 near) i k = fcmp .leq .f32 (longF (subC (nc (ls.getD i (0, 0))) (nc (ls.getD k (0, 0))))) (nrm .f32 near) from fun i k => by
    unfold closeF; rw [getD_nc, getD_nc])
  generalize closeF (ls.map nc) (nrm .f32 near) = CL at *
  have FN := Lib.hid (fun w1 => isFinite_impl near w1)
  rw [hnf] at FN
  clear hv hc1 hlf hnf
  generalize hN : ls.length = N at *
  go_enter Try.func9, Try.ntmps9
  go_wp2_with fail
  refine (AR.out _ Hv.out).mono ?_
  rintro e w1 ⟨rfl, hq1⟩
  have Q1 := Lib.hid hq1
  clear hq1
  go_wp2_with fail
  refine (FN.out _).mono ?_
  rintro e w' ⟨m0, rfl, rfl⟩
  go_wp2_with (at_make; go_must (refine wpList_makeV _ (.int .i64 0) 8 infoInt rfl (by decide) rfl _ _ _ rfl Try.underlying56 (N : Int) (N : Int) N rfl rfl rfl rfl (by omega) ?_); intro w3 hu hq3 hl3)
  have Q3 := Lib.hid (show Below w.heap.size w w3 from (below_drewN Q1.out m0).trans (hq3.mono (by have := Q1.out.size; simpa using this)))
  rw [initC_zero] at hu
  have U3 := Lib.hid (show OwV 3 w3 w1.heap.size (.slice (some ⟨w1.heap.size, 0, none⟩) N N) (gi (initC N 0)) from hu.own)
  have hl4 : w1.heap.size < w3.heap.size := hl3
  clear hl3
  have hUw := Q1.out.size
  generalize hU : w1.heap.size = U at *
  clear hq3 Q1 AR FN Hv
  go_wp2_with fail
  go_loopw [37] (fun iv wr => ∃ (i : Nat), i ≤ N ∧ iv = .int .i64 i ∧ OwV 3 wr U (.slice (some ⟨U, 0, none⟩) N N) (gi (initC N i)) ∧ Below w.heap.size w wr) (fun iv _ => N - (intOf iv).toNat)
  case atStart => exact ⟨0, Nat.zero_le _, rfl, U3.out, Q3.out⟩
  case round =>
    obtain ⟨i, hi, rfl, hown, hbel⟩ := hrel
    by_cases hlt : i < N
    · have j1 : (0 : Int) ≤ (i : Int) := by omega
      have j2 : (i : Int) < (N : Int) := by omega
      have u1 : wr.cell? ⟨U, i, none⟩ = some (.int .i64 ((initC N i).getD i 0)) := own_cell hown (by rw [initC_length]; exact hlt)
      have f1 : wr.frozen? ⟨U, i, none⟩ = false := own_frozen hown i (by rw [← List.length_pos_iff, initC_length]; omega)
      have Ho := Lib.hid (show OwV 3 (wr.setCell ⟨U, i, none⟩ (.int .i64 (i : Int))) U (.slice (some ⟨U, 0, none⟩) N N) (gi (initC N (i + 1))) from by
        have := hown.set i (.int .i64 (i : Int))
        rwa [initC_set hlt] at this)
      have Hb := Lib.hid (show Below w.heap.size w (wr.setCell ⟨U, i, none⟩ (.int .i64 (i : Int))) from hbel.setCell (by simp only; omega) _)
      clear hown hbel
      go_wp2_with fail
      go_roundw
      case rel => exact ⟨i + 1, by omega, by go_num, Ho.out, Hb.out⟩
      case measure => simp [intOf]; omega
    · (have hiN : N = i := by omega); subst hiN
      rw [initC_full] at hown
      have Hown := Lib.hid hown
      have Hbel := Lib.hid hbel
      clear hown hbel
      go_wp2_with fail
      go_loopw [47] (fun iv wx => ∃ (i : Nat), i ≤ N ∧ iv = .int .i64 i ∧ OwV 3 wx U (.slice (some ⟨U, 0, none⟩) N N) (gi (clO CL N i)) ∧ Below w.heap.size w wx) (fun iv _ => N - (intOf iv).toNat)
      case atStart => exact ⟨0, Nat.zero_le _, rfl, Hown.out, Hbel.out⟩
      case round =>
        clear Hown Hbel Q3 U3 hl4
        obtain ⟨i, hi2, rfl, hown, hbel⟩ := hrel
        by_cases hlt2 : i < N
        · have j1 : (0 : Int) ≤ (i : Int) := by omega
          have j2 : (i : Int) < (N : Int) := by omega
          have Hown := Lib.hid hown
          have Hbel := Lib.hid hbel
          clear hown hbel
          go_wp2_with fail
          go_loopw [51] (fun kv wy => ∃ (k : Nat), k ≤ i ∧ kv = .int .i64 k ∧ OwV 3 wy U (.slice (some ⟨U, 0, none⟩) N N) (gi (clI CL i (clO CL N i) k)) ∧ Below w.heap.size w wy) (fun kv _ => i - (intOf kv).toNat)
          case atStart => exact ⟨0, Nat.zero_le _, rfl, Hown.out, Hbel.out⟩
          case round =>
            clear Hown Hbel
            obtain ⟨k, hk, rfl, hown, hbel⟩ := hrel
            have HS := Lib.hid (show clI CL i (clO CL N i) (k + 1) = _ by unfold clI; rfl)
            have HCL0 := Lib.hid (clO_length CL N i)
            have HE := Lib.hid (show k = i → clI CL i (clO CL N i) k = clO CL N (i + 1) from fun h => by subst h; rfl)
            generalize clI CL i (clO CL N i) k = D at *
            have hDl := own_len hown
            by_cases hk2 : k < i
            · rw [HCL0.out] at HS
              have c1 := (hbel.cell (p := ⟨b1, o1 + i, none⟩) hb1).trans (Hc1.out i hlt2)
              have c2 := (hbel.cell (p := ⟨b1, o1 + k, none⟩) hb1).trans (Hc1.out k (by omega))
              have F1 := Lib.hid (Hf.out i k hlt2 (by omega))
              have HC1 := Lib.hid (HCL.out i k)
              obtain ⟨x, hX⟩ : ∃ x, ls.getD i (0, 0) = x := ⟨_, rfl⟩
              obtain ⟨y, hY⟩ : ∃ y, ls.getD k (0, 0) = y := ⟨_, rfl⟩
              rw [hX] at c1 F1 HC1
              rw [hY] at c2 F1 HC1
              clear hX hY
              obtain ⟨x1, x2⟩ := x
              obtain ⟨y1, y2⟩ := y
              have j3 : (0 : Int) ≤ (k : Int) := by omega
              have j4 : (k : Int) < (i : Int) := by omega
              have j5 : (k : Int) < (N : Int) := by omega
              have Hown := Lib.hid hown
              have Hbel := Lib.hid hbel
              clear hown hbel
              obtain ⟨DD, hDD⟩ : ∃ DD, subC (nc (x1, x2)) (nc (y1, y2)) = DD := ⟨_, rfl⟩
              have MI := Lib.hid (fun w1 => minus_impl (x1, x2) (y1, y2) w1)
              rw [hDD] at MI F1 HC1
              have LO := Lib.hid (fun a b w1 (h : nc (a, b) = DD) => long_impl (a, b) (Lib.hid (by rw [h]; exact F1.out)) w1)
              clear hDD
              obtain ⟨cl, hcl⟩ : ∃ cl, CL i k = cl := ⟨_, rfl⟩
              rw [hcl] at HC1 HS
              have hc0 : fcmp .leq .f32 (longF DD) (nrm .f32 near) = cl := HC1.out.symm
              clear HC1 hcl
              obtain ⟨FF, hFF⟩ : ∃ FF, longF DD = FF := ⟨_, rfl⟩
              rw [hFF] at hc0
              have HFF := Lib.hid hFF
              clear hFF
              go_wp2_with fail
              refine wp_region_v 12 (GC DD FF) (by kernel_rfl) (by kernel_rfl) ?_
              simp only [List.take_succ_cons, List.take_zero, List.drop_succ_cons, List.drop_zero]
              repeat (apply wpV_det; (exact rfl); (intro nq; go_simp; rfl); (intro K hK; go_simp; refine hK.use ?_; clear hK K))
              (apply wpV_call; (exact rfl); (intro nq; go_simp; first | exact ⟨rfl, rfl⟩ | rfl); (intro nq; refine (MI.out _).mono ?_; rintro e w' ⟨a, b, mm, rfl, ha, hb, rfl⟩; exact ⟨_, rfl, .inl ⟨rfl, a, b, rfl, Prod.ext ha hb⟩, nq + mm, by simp [Nat.add_assoc]⟩); (rintro u h); (obtain ⟨g1, g2, rfl, hM⟩ : ∃ a b, u = Value.complex .f32 a b ∧ nc (a, b) = DD := by rcases h with ⟨_, h⟩ | ⟨h, _⟩; exact h; exact absurd h (by decide)); clear h; (intro K hK; go_simp; refine hK.use ?_; clear hK K))
              repeat (apply wpV_det; (exact rfl); (intro nq; go_simp; rfl); (intro K hK; go_simp; refine hK.use ?_; clear hK K))
              (apply wpV_call; (exact rfl); (intro nq; go_simp; first | exact ⟨rfl, rfl⟩ | rfl); (intro nq; refine (LO.out _ _ _ hM).mono ?_; rw [hM, HFF.out]; rintro e w' ⟨a, mm, rfl, ha, rfl⟩; exact ⟨_, rfl, .inr ⟨rfl, a, rfl, ha⟩, nq + mm, by simp [Nat.add_assoc]⟩); (rintro u h); (obtain ⟨r, rfl, hr⟩ : ∃ a, u = Value.float .f32 a ∧ nrm .f32 a = FF := by rcases h with ⟨h, _⟩ | ⟨_, h⟩; exact absurd h (by decide); exact h); clear h; (intro K hK; go_simp; refine hK.use ?_; clear hK K))
              repeat (apply wpV_det; (exact rfl); (intro nq; go_simp; rfl); (intro K hK; go_simp; refine hK.use ?_; clear hK K))
              refine wpV_nil (fun nq => ?_)
              refine wpList_nil ?_
              clear MI LO hM hr F1 c1 c2
              have Hown2 := Lib.hid (Hown.out.below (below_drewN (Below.refl _ _) nq))
              have Hbel2 := Lib.hid (below_drewN Hbel.out nq)
              cases cl
              · have HS2 := Lib.hid (HS.out.trans (if_neg (by decide)))
                go_wp2_with fail
                go_roundw
                case rel => exact ⟨k + 1, by omega, by go_num, by rw [HS2.out]; exact Hown2.out, Hbel2.out⟩
                case measure => simp [intOf]; omega
              · have HS2 := Lib.hid (HS.out.trans (if_pos rfl))
                have u1 : wr.cell? ⟨U, i, none⟩ = some (.int .i64 (D.getD i 0)) := own_cell Hown.out (by omega)
                have u2 : wr.cell? ⟨U, k, none⟩ = some (.int .i64 (D.getD k 0)) := own_cell Hown.out (by omega)
                obtain ⟨di, hdi⟩ : ∃ di, D.getD i 0 = di := ⟨_, rfl⟩
                obtain ⟨dk, hdk⟩ : ∃ dk, D.getD k 0 = dk := ⟨_, rfl⟩
                rw [hdi] at u1 HS2
                rw [hdk] at u2 HS2
                clear hdi hdk HS
                go_wp2_with fail
                refine wp_region_v 20 (GC DD FF) (by kernel_rfl) (by kernel_rfl) ?_
                simp only [List.take_succ_cons, List.take_zero, List.drop_succ_cons, List.drop_zero]
                repeat (apply wpV_det; (exact rfl); (intro nq; go_simp; rfl); (intro K hK; go_simp; refine hK.use ?_; clear hK K))
                refine wpV_nil (fun nq2 => ?_)
                generalize max di dk = ff at *
                generalize min di dk = tt at *
                clear u1 u2
                have Hown3 := Lib.hid (Hown.out.below (below_drewN (Below.refl _ _) (nq + nq2)))
                have Hbel3 := Lib.hid (below_drewN Hbel.out (nq + nq2))
                clear Hown Hown2 Hbel Hbel2
                go_wp2_with fail
                go_loopw [86] (fun jv wz => ∃ (j : Nat), j ≤ N ∧ jv = .int .i64 j ∧ OwV 3 wz U (.slice (some ⟨U, 0, none⟩) N N) (gi (mergeN D ff tt j)) ∧ Below w.heap.size w wz) (fun jv _ => N - (intOf jv).toNat)
                case atStart => exact ⟨0, Nat.zero_le _, rfl, Hown3.out, Hbel3.out⟩
                case round =>
                  clear Hown3 Hbel3
                  obtain ⟨j, hj, rfl, hown, hbel⟩ := hrel
                  by_cases hj2 : j < N
                  · have HM := Lib.hid (show mergeN D ff tt (j + 1) = if (mergeN D ff tt j).getD j 0 = ff then (mergeN D ff tt j).set j tt else mergeN D ff tt j from rfl)
                    have hE := mergeN_length D ff tt j
                    generalize mergeN D ff tt j = E at *
                    have u1 : wr.cell? ⟨U, j, none⟩ = some (.int .i64 (E.getD j 0)) := own_cell hown (by omega)
                    have f1 : wr.frozen? ⟨U, j, none⟩ = false := own_frozen hown j (by rw [← List.length_pos_iff]; omega)
                    have Ho := Lib.hid (show OwV 3 (wr.setCell ⟨U, j, none⟩ (.int .i64 tt)) U (.slice (some ⟨U, 0, none⟩) N N) (gi (E.set j tt)) from by
                      rw [← gi_set]; exact hown.set j (.int .i64 tt))
                    have Hb := Lib.hid (show Below w.heap.size w (wr.setCell ⟨U, j, none⟩ (.int .i64 tt)) from hbel.setCell (by simp only; omega) _)
                    have Hown := Lib.hid hown
                    have Hbel := Lib.hid hbel
                    clear hown hbel
                    obtain ⟨ej, hej⟩ : ∃ ej, E.getD j 0 = ej := ⟨_, rfl⟩
                    rw [hej] at u1 HM
                    clear hej hE
                    have j6 : (0 : Int) ≤ (j : Int) := by omega
                    have j7 : (j : Int) < (N : Int) := by omega
                    by_cases heq : ej = ff
                    · have HM2 := Lib.hid (HM.out.trans (if_pos heq))
                      have e0 : (ej == ff) = true := by simp [heq]
                      clear HM heq
                      go_wp2_with fail
                      go_roundw
                      case rel => exact ⟨j + 1, by omega, by go_num, by rw [HM2.out]; exact Ho.out, Hb.out⟩
                      case measure => simp [intOf]; omega
                    · have HM2 := Lib.hid (HM.out.trans (if_neg heq))
                      have e0 : (ej == ff) = false := by simp [heq]
                      clear HM heq
                      go_wp2_with fail
                      go_roundw
                      case rel => exact ⟨j + 1, by omega, by go_num, by rw [HM2.out]; exact Hown.out, Hbel.out⟩
                      case measure => simp [intOf]; omega
                  · (have hjN : N = j := by omega); subst hjN
                    have Hown := Lib.hid hown
                    have Hbel := Lib.hid hbel
                    clear hown hbel
                    go_wp2_with fail
                    go_roundw
                    case rel => exact ⟨k + 1, by omega, by go_num, by rw [HS2.out]; exact Hown.out, Hbel.out⟩
                    case measure => simp [intOf]; omega
            · (have hiN : i = k := by omega); subst hiN
              have hE := HE.out rfl
              rw [hE] at hown
              have Hown := Lib.hid hown
              have Hbel := Lib.hid hbel
              clear hown hbel HS HE hE hDl
              go_wp2_with fail
              go_roundw
              case rel => exact ⟨i + 1, by omega, by go_num, Hown.out, Hbel.out⟩
              case measure => simp [intOf]; omega
        · (have hiN : N = i := by omega); subst hiN
          have hCl := own_len hown
          have BD := Lib.hid (clO_bound CL N N)
          obtain ⟨C, hC⟩ : ∃ C, clO CL N N = C := ⟨_, rfl⟩
          rw [hC] at hown hCl BD
          have HC := Lib.hid hC
          clear hC
          have Hown := Lib.hid hown
          have Hbel := Lib.hid hbel
          have hszr := hbel.size
          have hUr : U < wr.heap.size := (hown.lt U rfl).2
          clear hown hbel HCL Hc1 Hf
          go_wp2_with fail
          have HU := Lib.hid hUr
          generalize hw0 : wr = wr0 at *
          clear hw0
          go_loopw [15, 105] (fun ov jv wz => ∃ (j : Nat) (D : DataW Unit), j ≤ N ∧ jv = .int .i64 j ∧ RowV 2 wz wr0.heap.size ov (gi ((List.range j).map (outC C))) ∧ OwV 3 wz U (.slice (some ⟨U, 0, none⟩) N N) (gi C) ∧
            wz.ownsMap Try.prog 3 (plainElem Try.prog 2) wr0.heap.size j D ∧ MapR D (seenC C j) ∧ Below w.heap.size w wz ∧ ov.ownBlock ≠ some wr0.heap.size ∧ ov.ownBlock ≠ some U) (fun _ jv _ => N - (intOf jv).toNat)
          case atStart =>
            refine ⟨0, .map [], Nat.zero_le _, rfl, row_nilS (w := wr0.alloc (.map #[] 0)) (by simp) (by simp) _, ?_, (World.ownsMap_made _ _ _ _).alloc _, mapR_nil, ?_, ?_, ?_⟩
            · exact Hown.out.below (((Below.refl _ _).alloc (Nat.le_refl _) _).alloc (by simp) _)
            · exact (Hbel.out.alloc hszr _).alloc (by simp; omega) _
            · simp [Value.ownBlock]
            · simp [Value.ownBlock]; omega
          case round =>
            obtain ⟨j, D, hj, rfl, hrow, hown, hmap, hR, hbel, hn1, hn2⟩ := hrel
            by_cases hj2 : j < N
            · have u1 := own_cell hown (j := j) (by omega)
              have hBD := BD.out j hj2
              have HS := Lib.hid (seen_succ C j)
              have HO := Lib.hid (show outC C j = (((seenC C (j + 1)).idxOf (C.getD j 0) : Nat) : Int) from rfl)
              have HSL := Lib.hid (seen_le C j)
              have HM := Lib.hid (seen_mem C j)
              have HX := Lib.hid (grid_succ (outC C) j)
              obtain ⟨c, hc⟩ : ∃ c, C.getD j 0 = c := ⟨_, rfl⟩
              rw [hc] at u1 hBD HS HO HM
              clear hc
              have hwf : (Lit.int .i64 c).wf = true := WalkArith.wf_i64 ⟨by omega, by omega⟩
              have hkey : keyOf Try.prog 3 (.int .i64 c) = some (.int .i64 c) := Maps.keyOf_int_mk Try.underlying3 hwf
              have Hl := Lib.hid (show (gi ((List.range j).map (outC C))).length ≤ 1099511627776 by simp; omega)
              have j6 : (0 : Int) ≤ (j : Int) := by omega
              have j7 : (j : Int) < (N : Int) := by omega
              by_cases hs : c ∈ seenC C j
              · have hhas : Maps.has D (.int .i64 c) = true := by rw [hR.2.1]; simp [hs]
                have hSS := HS.out.trans (if_pos hs)
                have hszj : wr0.heap.size ≤ wr.heap.size := Nat.le_of_lt hmap.lt
                go_wp2_with (first | (at_lookup; refine wpList_lookup_own_ok_int _ rfl _ _ 57 rfl 3 2 .i64 lawK Try.underlying57 Try.underlying2 (zeroE _) wr0.heap.size j D rfl hmap _ _ rfl hkey ?_; intro c1 hat1 hw1) | (at_lookup; refine wpList_lookup_own_int _ rfl _ _ 57 rfl 3 2 .i64 lawK Try.underlying57 Try.underlying2 (zeroE _) wr0.heap.size (j) (D) rfl hmap _ _ rfl hkey ?_; intro c2 hat2 hw2) | (at_builtin; go_must (refine wpList_pushV (.int .i64 0) 8 hrow infoI rfl rfl (by decide) rfl _ _ rfl Try.underlying29 Hl.out hszj rfl (by first | rfl | (simp; done)) rfl rfl rfl rfl ?_); intro v1 w4 hr1 hb4 hg4 ho4))
                have hc2 : c2 = outC C j := by
                  have h := hR.2.2.1 c hs
                  rw [hat2] at h
                  rw [HO.out, hSS]
                  injection h with h; injection h
                rw [hc2, HX.out] at hr1
                go_roundw
                case rel =>
                  refine ⟨j + 1, D, by omega, by go_num, hr1, ?_, ?_, by rw [hSS]; exact hR, ?_, ?_, ?_⟩
                  · exact hown.kept hg4 (.inr fun h => hn2 h.symm)
                  · exact (hmap.kept hg4 (fun h => hn1 h.symm)).mono (Nat.le_succ _)
                  · exact hbel.trans (hb4.mono hszr)
                  · rcases ho4 with h | ⟨g, h, hge⟩
                    · rw [h]; exact hn1
                    · rw [h]; simp; have := hmap.lt; omega
                  · rcases ho4 with h | ⟨g, h, hge⟩
                    · rw [h]; exact hn2
                    · rw [h]; simp; have := (hown.lt U rfl).2; omega
                case measure => simp [intOf]; omega
              · have hhas : Maps.has D (.int .i64 c) = false := by rw [hR.2.1]; simp [hs]
                have hSS := HS.out.trans (if_neg hs)
                have hszj : wr0.heap.size < wr.heap.size := hmap.lt
                have hsl := HSL.out
                have hwfs : (Lit.int .i64 (Maps.size D : Int)).wf = true := by rw [hR.2.2.2]; exact WalkArith.wf_i64 ⟨by omega, by omega⟩
                go_wp2_with (first | (at_lookup; refine wpList_lookup_own_ok_int _ rfl _ _ 57 rfl 3 2 .i64 lawK Try.underlying57 Try.underlying2 (zeroE _) wr0.heap.size j D rfl hmap _ _ rfl hkey ?_; intro c1 hat1 hw1) | (at_len; refine wpList_len_own _ rfl _ 57 rfl 3 2 Try.underlying57 _ wr0.heap.size j D rfl hmap ?_) | (at_mapUpdate; refine wpList_mapUpdate_own _ rfl _ _ _ 57 rfl 3 2 lawK Try.underlying57 _ wr0.heap.size j D rfl hmap (by unfold maxLen; omega) _ _ _ rfl rfl hkey _ [] (plainElem_int Try.underlying2 hwfs) ?_; intro w5 hmap5 hg5; have hrow5 := World.ownsRow.kept hrow hg5 (.inr hn1); have hsz5 := hg5.size) | (at_lookup; refine wpList_lookup_own_int _ rfl _ _ 57 rfl 3 2 .i64 lawK Try.underlying57 Try.underlying2 (zeroE _) wr0.heap.size (j + 1) _ rfl hmap5 _ _ rfl hkey ?_; intro c2 hat2 hw2) | (at_builtin; go_must (refine wpList_pushV (.int .i64 0) 8 hrow5 infoI rfl rfl (by decide) rfl _ _ rfl Try.underlying29 Hl.out (by omega) rfl (by first | rfl | (simp; done)) rfl rfl rfl rfl ?_); intro v1 w4 hr1 hb4 hg4 ho4))
                have hR2 : MapR _ _ := mapR_put hR hs
                rw [← hR.2.2.2] at hR2
                have hc2 : c2 = outC C j := by
                  have h := hR2.2.2.1 c (by simp)
                  rw [hat2] at h
                  rw [HO.out, hSS]
                  injection h with h; injection h
                rw [hc2, HX.out] at hr1
                have hb5 : Below wr0.heap.size wr w5 := (Below.refl _ _).grown hg5 (by omega) (fun k hk => by cases hk; exact Nat.le_refl _)
                go_roundw
                case rel =>
                  refine ⟨j + 1, _, by omega, by go_num, hr1, ?_, ?_, by rw [hSS]; exact hR2, ?_, ?_, ?_⟩
                  · exact (hown.kept hg5 (.inr (fun h => by simp only [Value.ownBlock, Option.some.injEq] at h; have := HU.out; omega))).kept hg4 (.inr fun h => hn2 h.symm)
                  · exact hmap5.kept hg4 (fun h => hn1 h.symm)
                  · exact hbel.trans ((hb5.trans hb4).mono hszr)
                  · rcases ho4 with h | ⟨g, h, hge⟩
                    · rw [h]; exact hn1
                    · rw [h]; simp; have := hmap5.lt; omega
                  · rcases ho4 with h | ⟨g, h, hge⟩
                    · rw [h]; exact hn2
                    · rw [h]; simp; have := (hown.lt U rfl).2; have := hg5.size; omega
                case measure => simp [intOf]; omega
            · (have hjN : N = j := by omega); subst hjN
              have Hres := Lib.hid (hrow.own.mono hszr)
              have Hbel := Lib.hid hbel
              clear hrow hbel hown hmap
              go_wp2_with fail
              refine bodyPost_ret (by simp [results, Try.results9, go_sem]; try rfl) rfl ?_
              rw [HC.out]
              exact ⟨_, rfl, Hres.out, Hbel.out⟩

end Go.Proofs.Ytalfkkagbajjcaa

/- Draws: the source of numbers. Conditions: bytes; small counters. -/
namespace Go.Proofs.Ytalfkkagbajjcaa
set_option linter.unusedSimpArgs false
set_option linter.unusedVariables false
open Go Go.RowKit

/-- Nothing but blocks from 'lo' on below 'hi' has turned. -/
structure Only (lo hi : Nat) (w w' : World) : Prop where
  os : w'.os = w.os
  tape : w'.tape = w.tape
  output : w'.output = w.output
  size : w.heap.size ≤ w'.heap.size
  block : ∀ k, k < w.heap.size → (k < lo ∨ hi ≤ k) → w'.heap[k]? = w.heap[k]?
theorem Only.refl (lo hi : Nat) (w : World) : Only lo hi w w := ⟨rfl, rfl, rfl, Nat.le_refl _, fun _ _ _ => rfl⟩
theorem Only.ofBelow {lo hi : Nat} {w w' : World} (h : Below w.heap.size w w') : Only lo hi w w' := ⟨h.os, h.tape, h.output, h.size, fun k hk _ => h.block k hk⟩
theorem Only.trans {lo hi : Nat} {a b c : World} (h : Only lo hi a b) (h2 : Only lo hi b c) : Only lo hi a c :=
  ⟨h2.os.trans h.os, h2.tape.trans h.tape, h2.output.trans h.output, Nat.le_trans h.size h2.size, fun k hk ho => (h2.block k (Nat.lt_of_lt_of_le hk h.size) ho).trans (h.block k hk ho)⟩
theorem Only.wide {lo hi lo2 hi2 : Nat} {w w' : World} (h : Only lo hi w w') (h1 : lo2 ≤ lo) (h2 : hi ≤ hi2) : Only lo2 hi2 w w' := ⟨h.os, h.tape, h.output, h.size, fun k hk ho => h.block k hk (by omega)⟩
theorem Only.toBelow {lo hi B : Nat} {w w' : World} (h : Only lo hi w w') (hB : B ≤ lo) (hs : B ≤ w.heap.size) : Below B w w' := ⟨h.os, h.tape, h.output, h.size, fun k hk => h.block k (by omega) (by omega)⟩
theorem Only.setCell {lo hi : Nat} {a w : World} (h : Only lo hi a w) {p : Addr} (h1 : lo ≤ p.block) (h2 : p.block < hi) (u : Value) : Only lo hi a (w.setCell p u) :=
  h.trans ⟨rfl, rfl, rfl, by simp [World.setCell], fun k _ hk => Below.heap_setCell _ _ _ _ (by omega)⟩
theorem Only.cell {lo hi : Nat} {w w' : World} (h : Only lo hi w w') {p : Addr} (hp : p.block < w.heap.size) (ho : p.block < lo ∨ hi ≤ p.block) : w'.cell? p = w.cell? p := World.cell?_of_block (w := w) (h.block p.block hp ho)


theorem drewN_below (w : World) : ∀ m, Below w.heap.size w (w.drewN m) := fun m => ⟨rfl, rfl, rfl, Nat.le_refl _, fun _ _ => rfl⟩
theorem low_byte (x : Int) : 0 ≤ wrap64 (bits BinOp.and IntKind.u64 (IntKind.u64.wrap x / 1099511627776) 255) ∧ wrap64 (bits BinOp.and IntKind.u64 (IntKind.u64.wrap x / 1099511627776) 255) < 256 := by
  have h0 : 0 ≤ IntKind.u64.wrap x ∧ IntKind.u64.wrap x < 18446744073709551616 := by
    simp only [IntKind.wrap, IntKind.bits, IntKind.signed, Bool.false_and, Bool.false_eq_true, if_false]
    exact ⟨Int.emod_nonneg _ (by decide), Int.emod_lt_of_pos _ (by decide)⟩
  generalize IntKind.u64.wrap x = y at *
  have h1 : 0 ≤ y / 1099511627776 ∧ y / 1099511627776 ≤ 18446744073709551615 := by omega
  generalize y / 1099511627776 = E at *
  have h := bits_and_u64_nat E.toNat 255 (by omega) (by omega)
  rw [show (255 : Nat) = 2 ^ 8 - 1 by decide, Nat.and_two_pow_sub_one_eq_mod, Int.toNat_of_nonneg h1.1] at h
  have h2 : bits BinOp.and IntKind.u64 E 255 = ((E.toNat % 2 ^ 8 : Nat) : Int) := h
  rw [h2]
  have h3 : E.toNat % 2 ^ 8 < 256 := Nat.mod_lt _ (by decide)
  generalize E.toNat % 2 ^ 8 = r at *
  unfold wrap64
  omega
/-- A slice of bytes that reads as 'zs'. -/
def RdB (w : World) (v : Value) (zs : List Int) : Prop :=
  ∃ ao cap, v = .slice ao zs.length cap ∧ (zs.length ≤ cap ∧ cap ≤ maxLen) ∧ (∀ i, 0 ≤ zs.getD i 0 ∧ zs.getD i 0 ≤ 255) ∧ (zs = [] ∨ ∃ b off, ao = some ⟨b, off, none⟩ ∧ ∀ i, i < zs.length → w.cell? ⟨b, off + i, none⟩ = some (.int .u8 (zs.getD i 0)))
theorem RdB.kept {w w' : World} {v : Value} {zs : List Int} (h : RdB w v zs) (hb : ∀ p n c, v = .slice (some p) n c → p.block < w.heap.size → w'.heap[p.block]? = w.heap[p.block]?) : RdB w' v zs := by
  obtain ⟨ao, cap, hv, hcp, hr, hc⟩ := h
  refine ⟨ao, cap, hv, hcp, hr, ?_⟩
  rcases hc with hc | ⟨b, off, ha, hc⟩
  · exact .inl hc
  · refine .inr ⟨b, off, ha, fun i hi => ?_⟩
    rw [World.cell?_of_block (w := w) (a := ⟨b, off + i, none⟩) (show w'.heap[b]? = w.heap[b]? from hb ⟨b, off, none⟩ _ _ (by rw [hv, ha]) (show b < w.heap.size from World.block_lt_of_cell? w ⟨b, off + i, none⟩ (hc i hi)))]
    exact hc i hi
theorem RdB.below {w w' : World} {v : Value} {zs : List Int} (h : RdB w v zs) (hb : Below w.heap.size w w') : RdB w' v zs := h.kept fun _ _ _ _ hl => hb.block _ hl
theorem RdB.shape {w : World} {v : Value} {zs : List Int} (h : RdB w v zs) : ∃ ao cap, v = .slice ao zs.length cap := by
  obtain ⟨ao, cap, rfl, _⟩ := h
  exact ⟨ao, cap, rfl⟩
theorem RdB.blk {w : World} {v : Value} {zs : List Int} (h : RdB w v zs) (hn : zs ≠ []) : ∀ p n c, v = .slice (some p) n c → p.block < w.heap.size := by
  obtain ⟨ao, cap, rfl, _, _, hc⟩ := h
  intro p n c hv
  rcases hc with hc | ⟨b, off, ha, hc⟩
  · exact absurd hc hn
  · rw [ha] at hv
    simp only [Value.slice.injEq, Option.some.injEq] at hv
    rw [← hv.1]
    exact (show b < w.heap.size from World.block_lt_of_cell? w ⟨b, off + 0, none⟩ (hc 0 (List.length_pos_iff.2 hn)))

section
variable {H : Type} {enc : TypeId × Value → H} {P : Program} {w : World} {spare : Nat → Bool} {held : Bool}
theorem open_bytes {t e : TypeId} {b0 base : Nat} {v : Value} {d : DataW H} {p : List MemPlace} (ht : P.underlying t = some (.slice e)) (he : P.underlying e = some (.int .u8)) (hc : P.cellsOf e = 1)
    (hv : Value.okWide P w .any b0 t v) (h : DataW.Trod enc P w base spare held t v d p) : ∃ zs : List Int, RdB w v zs := by
  obtain ⟨a1, len, cap, rfl⟩ := Go.WideShapes.okWide_slice ht hv
  obtain ⟨fuel, hf⟩ := h
  rcases Go.ChangeShapes.open_ints ht he hc hf with ⟨hcs, _⟩ | ⟨a, len', cap', zs, hcs, _, hl, hm, hz, _, hcell, hwz⟩
  · simp [Value.cells] at hcs
    obtain ⟨rfl, rfl, rfl⟩ := hcs
    exact ⟨[], none, 0, rfl, ⟨by simp, by simp [maxLen]⟩, fun i => by simp, .inl rfl⟩
  · simp [Value.cells] at hcs
    obtain ⟨rfl, rfl, rfl⟩ := hcs
    have hlm : len ≤ zs.length := by rw [hz]; split <;> omega
    have hget : ∀ i, i < len → (zs.take len).getD i 0 = zs.getD i 0 := fun i hi => by simp [List.getD, List.getElem?_take, hi]
    have hlen : (zs.take len).length = len := by rw [List.length_take]; omega
    refine ⟨zs.take len, some a, cap, by rw [hlen], by rw [hlen]; exact ⟨hl, hm⟩, fun i => ?_, ?_⟩
    · by_cases hi : i < len
      · rw [hget i hi]
        have h1 := hwz (zs.getD i 0) (by rw [List.getD_eq_getElem?_getD, List.getElem?_eq_getElem (show i < zs.length by omega)]; simp)
        simpa [Lit.wf, IntKind.min, IntKind.max, IntKind.bits, IntKind.signed] using h1
      · rw [List.getD, List.getElem?_eq_none (by rw [hlen]; omega)]; simp
    · by_cases h0 : len = 0
      · left; rw [h0]; rfl
      · right
        obtain ⟨b, off, spot⟩ := a
        have h1 := hcell 0 (by omega)
        have hspot : spot = none := by simpa [Addr.add] using World.cell?_spot h1
        subst hspot
        refine ⟨b, off, rfl, fun i hi => ?_⟩
        rw [hlen] at hi
        rw [hget i hi]
        have h2 := hcell i (by omega)
        by_cases hi0 : i = 0
        · subst hi0; simpa [Addr.add] using h2
        · simpa [Addr.add, hi0] using h2
end

def longB (a b : List Int) : Bool := decide (1048576 < a.length ∨ 1048576 < b.length)
set_option maxRecDepth 100000 in
set_option maxHeartbeats 400000 in
theorem b10Long_law (va vb : Value) (a b : List Int) (w : World) (ha : RdB w va a) (hb : RdB w vb b) : Calls Try.prog 4 #[va, vb] w fun e w' => e = .returned (.bool (longB a b)) ∧ w = w' := by
  obtain ⟨aoa, ca, rfl⟩ := ha.shape
  obtain ⟨aob, cb, rfl⟩ := hb.shape
  clear ha hb
  by_cases h1 : (1048576 : Int) < (a.length : Int)
  · have Hd := Lib.hid (show longB a b = true by simp [longB]; omega)
    go_enter Try.func4, Try.ntmps4
    go_wp2
    go_ret
    rw [Hd.out]
    exact ⟨rfl, rfl⟩
  · by_cases h2 : (1048576 : Int) < (b.length : Int)
    · have Hd := Lib.hid (show longB a b = true by simp [longB]; omega)
      go_enter Try.func4, Try.ntmps4
      go_wp2
      go_ret
      rw [Hd.out]
      exact ⟨rfl, rfl⟩
    · have Hd := Lib.hid (show longB a b = false by simp [longB]; omega)
      go_enter Try.func4, Try.ntmps4
      go_wp2
      go_ret
      rw [Hd.out]
      exact ⟨rfl, rfl⟩

set_option maxRecDepth 100000 in
set_option maxHeartbeats 400000 in
theorem b10At_law (va : Value) (a : List Int) (i n : Int) (w : World) (ha : RdB w va a) (h0 : 0 ≤ i) (h1 : i ≤ 1000000) (h2 : 1 < n) (h3 : n ≤ 1000000) : Calls Try.prog 5 #[va, .int .i64 i, .int .i64 n] w fun e w' => ∃ z, e = .returned (.int .i64 z) ∧ 0 ≤ z ∧ z < n ∧ w = w' := by
  obtain ⟨ao, cap, rfl, hcp, hr, hc⟩ := ha
  have hn0 : ¬ (n = 0) := by omega
  have hn1 : ¬ (n ≤ 1) := by omega
  by_cases hi : i < a.length
  · rcases hc with hc | ⟨b, off, rfl, hc⟩
    · rw [hc] at hi; simp at hi; omega
    · obtain ⟨j, rfl⟩ : ∃ j : Nat, i = j := ⟨i.toNat, by omega⟩
      have c1 := hc j (by omega)
      have hz := hr j
      have hlt : j < a.length := by omega
      generalize a.getD j 0 = z at *
      have hq : 0 ≤ z % n ∧ z % n < n := ⟨Int.emod_nonneg _ hn0, Int.emod_lt_of_pos _ (by omega)⟩
      have hq2 : 0 ≤ z.tmod n ∧ z.tmod n < n := by rw [Int.tmod_eq_emod_of_nonneg hz.1]; exact hq
      have hw1 : IntKind.i64.wrap z = z := IntWalk.i64_in _ ⟨by omega, by omega⟩
      clear hr hc
      go_enter Try.func5, Try.ntmps5
      go_wp2
      go_ret
      exact ⟨_, rfl, by first | exact hq.1 | exact hq2.1, by first | exact hq.2 | exact hq2.2, rfl⟩
  · have hq : 0 ≤ (i * 37 + 11) % n ∧ (i * 37 + 11) % n < n := ⟨Int.emod_nonneg _ hn0, Int.emod_lt_of_pos _ (by omega)⟩
    have hq2 : 0 ≤ (i * 37 + 11).tmod n ∧ (i * 37 + 11).tmod n < n := by rw [Int.tmod_eq_emod_of_nonneg (by omega)]; exact hq
    clear hr hc
    go_enter Try.func5, Try.ntmps5
    go_wp2
    go_ret
    exact ⟨_, rfl, by first | exact hq.1 | exact hq2.1, by first | exact hq.2 | exact hq2.2, rfl⟩

/-- A source of draws in block g. -/
def SrcI (w : World) (g : Nat) (v : Value) (zs : List Int) (k : Nat) : Prop :=
  w.cell? ⟨g, 0, none⟩ = some v ∧ w.cell? ⟨g, 1, none⟩ = some (.int .i64 k) ∧ (∃ s : Int, w.cell? ⟨g, 2, none⟩ = some (.int .u64 s)) ∧ w.frozen? ⟨g, 1, none⟩ = false ∧ w.frozen? ⟨g, 2, none⟩ = false ∧
    RdB w v zs ∧ (∀ p n c, zs ≠ [] → v = .slice (some p) n c → p.block ≠ g) ∧ zs.length ≤ 1048576
theorem SrcI.below {w w' : World} {g : Nat} {v : Value} {zs : List Int} {k : Nat} (h : SrcI w g v zs k) (hb : Below w.heap.size w w') : SrcI w' g v zs k := by
  obtain ⟨x0, x1, ⟨s, x2⟩, y1, y2, hr, hn, hl⟩ := h
  have s0 := World.block_lt_of_cell? _ _ x0
  exact ⟨(hb.cell s0).trans x0, (hb.cell (p := ⟨g, 1, none⟩) s0).trans x1, ⟨s, (hb.cell (p := ⟨g, 2, none⟩) s0).trans x2⟩, (hb.frozen (p := ⟨g, 1, none⟩) s0).trans y1, (hb.frozen (p := ⟨g, 2, none⟩) s0).trans y2, hr.below hb, hn, hl⟩
theorem src_next {w : World} {g : Nat} {v : Value} {zs : List Int} {k : Nat} (h : SrcI w g v zs k) (hg : g < w.heap.size) (m m2 : Nat) (u : Int) :
    SrcI ((((w.drewN m).setCell ⟨g, 1, none⟩ (.int .i64 ((k : Int) + 1))).setCell ⟨g, 2, none⟩ (.int .u64 u)).drewN m2) g v zs (k + 1) ∧
      Only g (g + 1) w ((((w.drewN m).setCell ⟨g, 1, none⟩ (.int .i64 ((k : Int) + 1))).setCell ⟨g, 2, none⟩ (.int .u64 u)).drewN m2) := by
  have ho : Only g (g + 1) w ((((w.drewN m).setCell ⟨g, 1, none⟩ (.int .i64 ((k : Int) + 1))).setCell ⟨g, 2, none⟩ (.int .u64 u)).drewN m2) :=
    ((((Only.ofBelow (lo := g) (hi := g + 1) (drewN_below w m)).setCell (p := ⟨g, 1, none⟩) (Nat.le_refl _) (Nat.lt_succ_self _) _).setCell (p := ⟨g, 2, none⟩) (Nat.le_refl _) (Nat.lt_succ_self _) _)).trans (Only.ofBelow (drewN_below _ m2))
  obtain ⟨x0, x1, ⟨s, x2⟩, y1, y2, hr, hn, hl⟩ := h
  refine ⟨⟨?_, ?_, ⟨u, ?_⟩, ?_, ?_, ?_, hn, hl⟩, ho⟩
  · go_simp
  · rw [show ((k + 1 : Nat) : Int) = (k : Int) + 1 by omega]; go_simp
  · go_simp
  · go_simp
  · go_simp
  · by_cases hz : zs = []
    · obtain ⟨ao, cap, hv, hcp, hrr, _⟩ := hr
      exact ⟨ao, cap, hv, hcp, hrr, .inl hz⟩
    · exact hr.kept fun p n c hv hp => ho.block _ hp (by have := hn p n c hz hv; omega)
/-- A number is drawn. -/
def Drawn (w : World) (g : Nat) (v : Value) (zs : List Int) (k : Nat) (lim : Int) (e : Ending) (w' : World) : Prop :=
  ∃ (z : Int) (k' : Nat), e = .returned (.int .i64 z) ∧ 0 ≤ z ∧ z < lim ∧ k ≤ k' ∧ k' ≤ k + 2 ∧ SrcI w' g v zs k' ∧ Only g (g + 1) w w'

set_option maxRecDepth 100000 in
set_option maxHeartbeats 400000 in
theorem from_spec (v : Value) (zs : List Int) (w : World) (hv : RdB w v zs) (hl : zs.length ≤ 1048576) : Calls Try.prog 17 #[v] w fun e w' => e = .returned (.pointer (some ⟨w.heap.size, 0, none⟩)) ∧ SrcI w' w.heap.size v zs 0 ∧ Below w.heap.size w w' := by
  have Hv := Lib.hid hv
  obtain ⟨ao, cap, rfl⟩ := hv.shape
  clear hv
  go_enter Try.func17, Try.ntmps17
  go_wp2
  go_ret
  exact ⟨rfl, ⟨by go_simp, by go_simp, ⟨0, by go_simp⟩, by go_simp, by go_simp, Hv.out.below (by (repeat' (first | (with_reducible exact Below.refl _ _) | (with_reducible assumption) | (with_reducible refine Below.alloc ?_ ?_ _) | (with_reducible refine Below.setCell ?_ ?_ _) | (with_reducible refine Below.drew ?_) | (with_reducible refine Below.via (by assumption) ?_ ?_) | go_size))), fun p n c hn hs => by have := Hv.out.blk hn p n c hs; omega, hl⟩, by (repeat' (first | (with_reducible exact Below.refl _ _) | (with_reducible assumption) | (with_reducible refine Below.alloc ?_ ?_ _) | (with_reducible refine Below.setCell ?_ ?_ _) | (with_reducible refine Below.drew ?_) | (with_reducible refine Below.via (by assumption) ?_ ?_) | go_size))⟩

set_option maxRecDepth 100000 in
set_option maxHeartbeats 1600000 in
theorem next_spec (g : Nat) (v : Value) (zs : List Int) (k : Nat) (w : World) (hs : SrcI w g v zs k) (hk : k ≤ 1000000) : Calls Try.prog 43 #[.pointer (some ⟨g, 0, none⟩)] w (Drawn w g v zs k 256) := by
  have Hs := Lib.hid hs
  obtain ⟨x0, x1, ⟨s, x2⟩, y1, y2, hr, hn, hl⟩ := hs
  obtain ⟨ao, cap, rfl, hcp, hrg, hc⟩ := hr
  have sg := World.block_lt_of_cell? _ _ x0
  simp only at sg
  by_cases hlt : k < zs.length
  · rcases hc with hc | ⟨b, off, rfl, hc⟩
    · rw [hc] at hlt; simp at hlt
    · have c1 := hc k hlt
      have hz := hrg k
      have hbg := hn _ _ _ (by intro h; rw [h] at hlt; simp at hlt) rfl
      simp only at hbg
      generalize zs.getD k 0 = z at *
      have hw1 : IntKind.i64.wrap z = z := IntWalk.i64_in _ ⟨by omega, by omega⟩
      clear hc hrg hn
      go_enter Try.func43, Try.ntmps43
      go_wp2
      go_quiet (fail)
      go_wp2
      go_quiet (fail)
      go_wp2
      have hk1 : (k : Int) + 1 ≤ zs.length := by omega
      go_quiet (fail)
      go_wp2
      go_ret
      exact ⟨z, k + 1, rfl, by omega, by omega, by omega, by omega, (src_next Hs.out sg _ _ _).1, (src_next Hs.out sg _ _ _).2⟩
  · have hk1 : ¬ ((k : Int) + 1 ≤ zs.length) := by omega
    have hk2 : ¬ ((k : Int) < zs.length) := by omega
    clear hc hrg hn
    go_enter Try.func43, Try.ntmps43
    go_wp2
    go_quiet (fail)
    go_wp2
    go_quiet (fail)
    go_wp2
    go_ret
    refine ⟨_, k + 1, rfl, ?_, ?_, by omega, by omega, (src_next Hs.out sg _ _ _).1, (src_next Hs.out sg _ _ _).2⟩
    · exact (low_byte _).1
    · exact (low_byte _).2

theorem Only.below' {lo hi : Nat} {a b c : World} (h : Only lo hi a b) (hb : Below a.heap.size b c) : Only lo hi a c :=
  ⟨hb.os.trans h.os, hb.tape.trans h.tape, hb.output.trans h.output, Nat.le_trans h.size hb.size, fun k hk ho => (hb.block k hk).trans (h.block k hk ho)⟩
theorem SrcI.belowB {w w' : World} {g B k : Nat} {v : Value} {zs : List Int} (h : SrcI w g v zs k) (hb : Below B w w') (hg : g < B) (hv : ∀ p n c, zs ≠ [] → v = .slice (some p) n c → p.block < B) : SrcI w' g v zs k := by
  obtain ⟨x0, x1, ⟨s, x2⟩, y1, y2, hr, hn, hl⟩ := h
  refine ⟨(hb.cell (p := ⟨g, 0, none⟩) hg).trans x0, (hb.cell (p := ⟨g, 1, none⟩) hg).trans x1, ⟨s, (hb.cell (p := ⟨g, 2, none⟩) hg).trans x2⟩, (hb.frozen (p := ⟨g, 1, none⟩) hg).trans y1, (hb.frozen (p := ⟨g, 2, none⟩) hg).trans y2, ?_, hn, hl⟩
  by_cases hz : zs = []
  · obtain ⟨ao, cap, hv, hcp, hrr, _⟩ := hr
    exact ⟨ao, cap, hv, hcp, hrr, .inl hz⟩
  · exact hr.kept fun p n c hv2 hp => hb.block _ (hv p n c hz hv2)

set_option maxRecDepth 100000 in
set_option maxHeartbeats 800000 in
theorem pick_spec (g : Nat) (v : Value) (zs : List Int) (k : Nat) (n : Int) (w : World) (hs : SrcI w g v zs k) (hk : k ≤ 1000000) (h1 : 1 ≤ n) (h2 : n ≤ 200) : Calls Try.prog 18 #[.pointer (some ⟨g, 0, none⟩), .int .i64 n] w (Drawn w g v zs k n) := by
  have Hs := Lib.hid hs
  clear hs
  by_cases hn : n ≤ 1
  · go_enter Try.func18, Try.ntmps18
    go_wp2
    go_ret
    exact ⟨0, k, rfl, by omega, by omega, by omega, by omega, Hs.out, Only.refl _ _ _⟩
  · have hn0 : ¬ (n = 0) := by omega
    have hn2 : ¬ (200 < n) := by omega
    go_enter Try.func18, Try.ntmps18
    go_wp2_with fail
    (go_at_call 43; ((with_reducible refine (next_spec g v zs k _ Hs.out hk).mono ?_); rintro e w' ⟨z, k', rfl, hz0, hz1, hk1, hk2, hs2, ho⟩))
    have Hs2 := Lib.hid hs2
    have Ho := Lib.hid ho
    clear hs2 ho
    have hq : 0 ≤ z % n ∧ z % n < n := ⟨Int.emod_nonneg _ hn0, Int.emod_lt_of_pos _ (by omega)⟩
    have hq2 : 0 ≤ z.tmod n ∧ z.tmod n < n := by rw [Int.tmod_eq_emod_of_nonneg hz0]; exact hq
    go_wp2_with fail
    go_ret
    exact ⟨_, k', rfl, by first | exact hq.1 | exact hq2.1, by first | exact hq.2 | exact hq2.2, hk1, hk2, Hs2.out, Ho.out⟩

end Go.Proofs.Ytalfkkagbajjcaa

/- The values of Ieee's words as rational numbers, and what rounding does to them. Conditions: the number does not pass the format's greatest. -/
namespace Go.Proofs.Ytalfkkagbajjcaa
set_option linter.unusedSimpArgs false
set_option linter.unusedVariables false
open Go

/-- Powers of two. -/
def p2 (e : Int) : Rat := (2 : Rat) ^ e
theorem p2_add (a b : Int) : p2 (a + b) = p2 a * p2 b := Rat.zpow_add (by decide) a b
theorem p2_pos (a : Int) : 0 < p2 a := Rat.zpow_pos (by decide)
theorem p2_zero : p2 0 = 1 := by unfold p2; rfl
theorem p2_nat (n : Nat) : p2 (n : Int) = ((2 ^ n : Nat) : Rat) := by
  unfold p2
  rw [Rat.zpow_natCast, Rat.natCast_pow]
  rfl
theorem p2_neg (a : Int) : p2 a * p2 (-a) = 1 := by rw [← p2_add, Int.add_right_neg, p2_zero]
theorem one_le_p2 (n : Nat) : 1 ≤ p2 (n : Int) := by
  rw [p2_nat]
  have : 1 ≤ 2 ^ n := Nat.one_le_two_pow
  exact_mod_cast this
theorem p2_mono {a b : Int} (h : a ≤ b) : p2 a ≤ p2 b := by
  have e : b = a + ((b - a).toNat : Int) := by omega
  rw [e, p2_add]
  have h1 := one_le_p2 (b - a).toNat
  have h2 := p2_pos a
  have := Rat.mul_le_mul_of_nonneg_left h1 (Rat.le_of_lt h2)
  grind
theorem p2_toNat {a : Int} (h : 0 ≤ a) : p2 a = ((2 ^ a.toNat : Nat) : Rat) := by
  have := p2_nat a.toNat
  rw [Int.toNat_of_nonneg h] at this
  exact this

theorem rcancel {a b c : Rat} (hc : 0 < c) (h : a * c = b * c) : a = b := by
  have h1 : c * c⁻¹ = 1 := Rat.mul_inv_cancel c (by intro h0; rw [h0] at hc; exact absurd hc (by decide))
  have h2 : a * c * c⁻¹ = b * c * c⁻¹ := by rw [h]
  grind

theorem cut_even (s : Bool) (n drop : Nat) :
    2 * (Ieee.Toward.even.cut s n drop * 2 ^ drop) ≤ 2 * n + 2 ^ drop ∧ 2 * n ≤ 2 * (Ieee.Toward.even.cut s n drop * 2 ^ drop) + 2 ^ drop ∧ (2 ^ drop ∣ n → Ieee.Toward.even.cut s n drop * 2 ^ drop = n) := by
  unfold Ieee.Toward.cut
  by_cases h : drop ≤ n.log2 + 2
  · rw [Nat.min_eq_left h, Nat.one_shiftLeft]
    dsimp only
    have hg : 0 < 2 ^ drop := Nat.two_pow_pos drop
    have hd := Nat.div_add_mod n (2 ^ drop)
    have hm := Nat.mod_lt n hg
    generalize hq : n / 2 ^ drop = low at *
    generalize hr : n % 2 ^ drop = rest at *
    rw [Nat.dvd_iff_mod_eq_zero, hr]
    generalize 2 ^ drop = g at *
    rw [Nat.add_mul, Nat.mul_comm low g]
    generalize g * low = p at *
    by_cases h1 : g < 2 * rest
    · simp only [h1, decide_true, Bool.true_or, Bool.toNat_true]
      omega
    · by_cases h2 : g = 2 * rest
      · simp only [h2]
        cases hb : (low % 2 == 1) <;> simp <;> omega
      · have h3 : (g == 2 * rest) = false := by simpa using h2
        simp only [h1, h3, decide_false, Bool.false_and, Bool.or_false, Bool.toNat_false]
        omega
  · have hl : n < 2 ^ (n.log2 + 1) := Nat.lt_log2_self
    have hl2 : (2 : Nat) ^ (n.log2 + 2) = 2 * 2 ^ (n.log2 + 1) := by rw [Nat.pow_succ]; omega
    have hl3 : (2 : Nat) ^ (n.log2 + 2) ≤ 2 ^ drop := Nat.pow_le_pow_right (by decide) (by omega)
    rw [Nat.min_eq_right (by omega), Nat.one_shiftLeft]
    dsimp only
    rw [Nat.div_eq_of_lt (by omega), Nat.mod_eq_of_lt (by omega)]
    have h1 : ¬ (2 ^ (n.log2 + 2) < 2 * n) := by omega
    have h3 : (2 ^ (n.log2 + 2) == 2 * n) = false := by simp; omega
    simp only [h1, h3, decide_false, Bool.false_and, Bool.or_false, Bool.toNat_false]
    refine ⟨by omega, by omega, fun hd => ?_⟩
    have := Nat.eq_zero_of_dvd_of_lt hd (by omega)
    omega

/-- What a datum is worth; 0 where it is no number. -/
def sg (neg : Bool) (q : Rat) : Rat := if neg then -q else q
def valD : Ieee.Datum → Rat
  | .number s m e => sg s ((m : Rat) * p2 e)
  | _ => 0
def isNum : Ieee.Datum → Bool
  | .number .. => true
  | _ => false

/-- Rounding: what is kept, and where. -/
structure Rounds (f : Ieee.Format) (s : Bool) (m : Nat) (e : Int) : Prop where
  ex : ∃ (M : Nat) (P : Int) (c : Nat) (last : Int), f.read (f.nearest s m e) = .number s M P ∧ (M : Rat) * p2 P = (c : Rat) * p2 last ∧
    last = max (e + m.log2 - f.fractionBits) f.leastPlace ∧
    2 * ((c : Rat) * p2 last) ≤ 2 * ((m : Rat) * p2 e) + p2 last ∧ 2 * ((m : Rat) * p2 e) ≤ 2 * ((c : Rat) * p2 last) + p2 last ∧
    ((∃ (m' : Nat) (e' : Int), (m : Rat) * p2 e = (m' : Rat) * p2 e' ∧ last ≤ e') → (c : Rat) * p2 last = (m : Rat) * p2 e)

theorem read_word_num (f : Ieee.Format) (s : Bool) {r : Nat} (hr : r < f.infRung) (hsw : f.infRung < f.signWeight) :
    f.read (f.word s r) = if r < f.binade then .number s r f.leastPlace else .number s (f.binade + r % f.binade) (f.leastPlace + (r / f.binade - 1 : Nat)) := by
  have hw : 0 < f.signWeight := by omega
  have h1 : f.word s r % f.signWeight = r := by
    unfold Ieee.Format.word
    split
    · rw [Nat.add_mod_left, Nat.mod_eq_of_lt (by omega)]
    · rw [Nat.mod_eq_of_lt (by omega)]
  have h2 : (f.word s r / f.signWeight % 2 == 1) = s := by
    unfold Ieee.Format.word
    cases s
    · simp [Nat.div_eq_of_lt (show r < f.signWeight by omega)]
    · simp [Nat.add_div_left _ hw, Nat.div_eq_of_lt (show r < f.signWeight by omega)]
  unfold Ieee.Format.read
  simp only [h1, h2]
  split
  · rfl
  · rfl


theorem nearest_rounds (f : Ieee.Format) (hsw : f.infRung < f.signWeight) (h4 : 4 ≤ 2 ^ f.exponentBits) (s : Bool) (m : Nat) (e : Int) (hm : m ≠ 0)
    (hlt : e + (m.log2 : Int) - (f.fractionBits : Int) - f.leastPlace + 3 < ((2 ^ f.exponentBits : Nat) : Int)) : Rounds f s m e := by
  have hir : f.infRung = (2 ^ f.exponentBits - 1) * f.binade := rfl
  have hbn : f.binade = 2 ^ f.fractionBits := rfl
  have hb0 : 0 < f.binade := by rw [hbn]; exact Nat.two_pow_pos _
  have hm1 : m < 2 ^ (m.log2 + 1) := Nat.lt_log2_self
  have hm2 : 2 ^ m.log2 ≤ m := Nat.log2_self_le hm
  have hN : f.nearest s m e = f.word s (min ((max (e + (m.log2 : Int) - (f.fractionBits : Int)) f.leastPlace - f.leastPlace).toNat * f.binade + Ieee.Toward.even.cut s (m <<< (e - max (e + (m.log2 : Int) - (f.fractionBits : Int)) f.leastPlace).toNat) (max (e + (m.log2 : Int) - (f.fractionBits : Int)) f.leastPlace - e).toNat) f.infRung) := by
    unfold Ieee.Format.nearest
    rw [if_neg hm]
  have hl0 : max (e + (m.log2 : Int) - (f.fractionBits : Int)) f.leastPlace = max (e + (m.log2 : Int) - (f.fractionBits : Int)) f.leastPlace := rfl
  generalize hlast : max (e + (m.log2 : Int) - (f.fractionBits : Int)) f.leastPlace = last at hN
  have hge : f.leastPlace ≤ last := by omega
  have hge2 : e + (m.log2 : Int) - (f.fractionBits : Int) ≤ last := by omega
  -- what is kept
  obtain ⟨kept, hkept, hk1, hk2, hk3, hk4, hk5⟩ : ∃ kept, Ieee.Toward.even.cut s (m <<< (e - last).toNat) (last - e).toNat = kept ∧
      kept ≤ 2 * f.binade ∧ (f.leastPlace < last → f.binade ≤ kept) ∧
      2 * ((kept : Rat) * p2 last) ≤ 2 * ((m : Rat) * p2 e) + p2 last ∧ 2 * ((m : Rat) * p2 e) ≤ 2 * ((kept : Rat) * p2 last) + p2 last ∧
      ((∃ (m' : Nat) (e' : Int), (m : Rat) * p2 e = (m' : Rat) * p2 e' ∧ last ≤ e') → (kept : Rat) * p2 last = (m : Rat) * p2 e) := by
    refine ⟨_, rfl, ?_⟩
    by_cases h : last ≤ e
    · have hd : (last - e).toNat = 0 := by omega
      have cz : ∀ n, Ieee.Toward.even.cut s n 0 = n := fun n => by
        have := (cut_even s n 0).2.2 (by simp)
        simpa using this
      rw [hd, cz, Nat.shiftLeft_eq]
      have hp : ((m * 2 ^ (e - last).toNat : Nat) : Rat) * p2 last = (m : Rat) * p2 e := by
        have h1 : p2 e = ((2 ^ (e - last).toNat : Nat) : Rat) * p2 last := by rw [← p2_toNat (by omega), ← p2_add]; congr 1; omega
        rw [h1, Rat.natCast_mul]; grind
      have hpos := p2_pos last
      refine ⟨?_, fun hl => ?_, by rw [hp]; grind, by rw [hp]; grind, fun _ => hp⟩
      · have : m * 2 ^ (e - last).toNat ≤ 2 ^ (m.log2 + 1) * 2 ^ (e - last).toNat := Nat.mul_le_mul_right _ (Nat.le_of_lt hm1)
        have h2 : 2 ^ (m.log2 + 1) * 2 ^ (e - last).toNat ≤ 2 ^ (f.fractionBits + 1) := by rw [← Nat.pow_add]; exact Nat.pow_le_pow_right (by decide) (by omega)
        have h3 : 2 ^ (f.fractionBits + 1) = 2 * f.binade := by rw [hbn, Nat.pow_succ]; omega
        omega
      · have h2 : 2 ^ m.log2 * 2 ^ (e - last).toNat = f.binade := by rw [← Nat.pow_add, hbn]; congr 1; omega
        have := Nat.mul_le_mul_right (2 ^ (e - last).toNat) hm2
        omega
    · have hz : (e - last).toNat = 0 := by omega
      rw [hz, Nat.shiftLeft_zero]
      obtain ⟨c1, c2, c3⟩ := cut_even s m (last - e).toNat
      generalize Ieee.Toward.even.cut s m (last - e).toNat = c at *
      have hp : p2 last = ((2 ^ (last - e).toNat : Nat) : Rat) * p2 e := by rw [← p2_toNat (by omega), ← p2_add]; congr 1; omega
      have hpe := p2_pos e
      have hcp : (c : Rat) * p2 last = ((c * 2 ^ (last - e).toNat : Nat) : Rat) * p2 e := by rw [hp, Rat.natCast_mul]; grind
      have hg : 0 < 2 ^ (last - e).toNat := Nat.two_pow_pos _
      refine ⟨?_, fun hl => ?_, ?_, ?_, ?_⟩
      · have h1 : 2 ^ (m.log2 + 1) ≤ 2 ^ (f.fractionBits + 1) * 2 ^ (last - e).toNat := by rw [← Nat.pow_add]; exact Nat.pow_le_pow_right (by decide) (by omega)
        have h3 : 2 ^ (f.fractionBits + 1) = 2 * f.binade := by rw [hbn, Nat.pow_succ]; omega
        rw [h3] at h1
        generalize 2 ^ (last - e).toNat = g at *
        rcases Nat.lt_or_ge (2 * f.binade) c with hc | hc
        · have := Nat.mul_le_mul_right g (show 2 * f.binade + 1 ≤ c from hc)
          rw [Nat.add_mul] at this
          omega
        · exact hc
      · have h1 : f.binade * 2 ^ (last - e).toNat ≤ m := by
          refine Nat.le_trans (Nat.le_of_eq ?_) hm2
          rw [hbn, ← Nat.pow_add]; congr 1; omega
        generalize 2 ^ (last - e).toNat = g at *
        rcases Nat.lt_or_ge c f.binade with hc | hc
        · have := Nat.mul_le_mul_right g (show c + 1 ≤ f.binade from hc)
          rw [Nat.add_mul] at this
          omega
        · exact hc
      · rw [hcp, hp]
        have h1 : 2 * ((c * 2 ^ (last - e).toNat : Nat) : Rat) ≤ 2 * (m : Rat) + ((2 ^ (last - e).toNat : Nat) : Rat) := by exact_mod_cast c1
        have := Rat.mul_le_mul_of_nonneg_right h1 (Rat.le_of_lt hpe)
        grind
      · rw [hcp, hp]
        have h1 : 2 * (m : Rat) ≤ 2 * ((c * 2 ^ (last - e).toNat : Nat) : Rat) + ((2 ^ (last - e).toNat : Nat) : Rat) := by exact_mod_cast c2
        have := Rat.mul_le_mul_of_nonneg_right h1 (Rat.le_of_lt hpe)
        grind
      · rintro ⟨m', e', h1, h2⟩
        rw [hcp]
        have h3 : p2 e' = ((2 ^ (e' - e).toNat : Nat) : Rat) * p2 e := by rw [← p2_toNat (by omega), ← p2_add]; congr 1; omega
        have h4 : (m : Rat) * p2 e = ((m' * 2 ^ (e' - e).toNat : Nat) : Rat) * p2 e := by rw [h1, h3, Rat.natCast_mul]; grind
        have h5 : (m : Rat) = ((m' * 2 ^ (e' - e).toNat : Nat) : Rat) := rcancel hpe h4
        have h6 : m = m' * 2 ^ (e' - e).toNat := by exact_mod_cast h5
        have h7 : 2 ^ (last - e).toNat ∣ m := by
          rw [h6]
          exact Nat.dvd_trans (Nat.pow_dvd_pow 2 (by omega)) (Nat.dvd_mul_left _ _)
        rw [c3 h7]
  rw [hkept] at hN
  -- the rung
  obtain ⟨T, hT⟩ : ∃ T : Nat, last = f.leastPlace + (T : Int) := ⟨(last - f.leastPlace).toNat, by omega⟩
  have hTn : (last - f.leastPlace).toNat = T := by omega
  rw [hTn] at hN
  have hTE : T + 3 < 2 ^ f.exponentBits := by
    have h5 : (T : Int) + 3 < ((2 ^ f.exponentBits : Nat) : Int) := by
      have h6 : (4 : Int) ≤ ((2 ^ f.exponentBits : Nat) : Int) := by exact_mod_cast h4
      omega
    exact_mod_cast h5
  have hr : T * f.binade + kept < f.infRung := by
    rw [hir]
    have h1 : (T + 3) * f.binade ≤ (2 ^ f.exponentBits - 1) * f.binade := Nat.mul_le_mul_right _ (by omega)
    rw [Nat.add_mul] at h1
    omega
  rw [Nat.min_eq_left (Nat.le_of_lt hr)] at hN
  have hread := read_word_num f s hr hsw
  rw [← hN] at hread
  have hTl : ∀ {x : Nat}, 0 < T → f.binade ≤ kept := fun h => hk2 (by omega)
  by_cases h1 : T * f.binade + kept < f.binade
  · rw [if_pos h1] at hread
    have h0 : T = 0 := by
      rcases Nat.eq_zero_or_pos T with h | h
      · exact h
      · have := Nat.mul_le_mul_right f.binade (show 1 ≤ T from h); omega
    subst h0
    refine ⟨_, _, kept, last, hread, ?_, hlast.symm, hk3, hk4, hk5⟩
    rw [hT]; simp
  · rw [if_neg h1] at hread
    have hkb : f.binade ≤ kept := by
      rcases Nat.eq_zero_or_pos T with h | h
      · subst h; omega
      · exact hk2 (by omega)
    rcases Nat.lt_or_ge kept (2 * f.binade) with h2 | h2
    · have e1 : T * f.binade + kept = (kept - f.binade) + f.binade * (T + 1) := by rw [Nat.mul_add, Nat.mul_comm f.binade T]; omega
      have e2 : (T * f.binade + kept) % f.binade = kept - f.binade := by rw [e1, Nat.add_mul_mod_self_left, Nat.mod_eq_of_lt (by omega)]
      have e3 : (T * f.binade + kept) / f.binade = T + 1 := by rw [e1, Nat.add_mul_div_left _ _ hb0, Nat.div_eq_of_lt (by omega)]; omega
      rw [e2, e3] at hread
      refine ⟨_, _, kept, last, hread, ?_, hlast.symm, hk3, hk4, hk5⟩
      rw [hT, show f.binade + (kept - f.binade) = kept by omega]; simp
    · have hk : kept = 2 * f.binade := by omega
      have e1 : T * f.binade + kept = 0 + f.binade * (T + 2) := by rw [Nat.mul_add, Nat.mul_comm f.binade T]; omega
      have e2 : (T * f.binade + kept) % f.binade = 0 := by rw [e1, Nat.add_mul_mod_self_left, Nat.zero_mod]
      have e3 : (T * f.binade + kept) / f.binade = T + 2 := by rw [e1, Nat.add_mul_div_left _ _ hb0, Nat.zero_div]; omega
      rw [e2, e3] at hread
      refine ⟨_, _, kept, last, hread, ?_, hlast.symm, hk3, hk4, hk5⟩
      have h3 : f.leastPlace + ((T + 2 - 1 : Nat) : Int) = 1 + last := by omega
      rw [h3, hk, p2_add, Rat.natCast_mul, show p2 1 = 2 from rfl, Nat.add_zero, show ((2 : Nat) : Rat) = 2 from rfl]
      grind
end Go.Proofs.Ytalfkkagbajjcaa
