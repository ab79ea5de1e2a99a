/- The polynomial of roots, of the reference. Conditions: 1 to 6 finite roots; what is narrowed fits float32. -/
import Derived.Test.YtalfkkagbajjcaaZ6
import Derived.Lib.SliceRun
import Derived.Laws.OwnMore
namespace Go.Proofs.Ytalfkkagbajjcaa
set_option linter.unusedSimpArgs false
set_option linter.unusedVariables false
open Go Go.RowKit

set_option maxRecDepth 100000 in
set_option maxHeartbeats 1000000 in
theorem polyOfRoots_spec (v : Value) (ls : List C2) (w : World) (hv : RdV w v (cx ls)) (h1 : 1 ≤ ls.length) (h2 : ls.length ≤ 6) (hlf : allFinC ls = true) (Hs : RowKit.Hid (safeRoots (ls.map nc))) :
    Calls Try.prog 11 #[v] w (RetP (polyF (rootsL (ls.map nc) ls.length)) w.heap.size w) := by
  obtain ⟨ao, cap, rfl, _⟩ := hv.shape
  rw [cx_length] at hv ⊢
  have Hv := Lib.hid hv
  have F := Lib.hid (fun w1 hv => cfinite_spec (.slice ao ls.length cap) ls w1 hv (by omega))
  rw [hlf] at F
  have R := Lib.hid (fun w1 hv => rooted_terms (.slice ao ls.length cap) ls w1 hv h1 h2 Hs)
  have hlen := rootsL_length (ls.map nc) ls.length
  have j1 : (ls.length : Int) < 17 := by omega
  have Hlen := Lib.hid hlen
  have Xr := Lib.hid (World.cell?_alloc_new w #[.slice none 0 0] 38 0 : (w.alloc (.cells #[.slice none 0 0] 38)).cell? ⟨w.heap.size, 0, none⟩ = some (.slice none 0 0))
  have Fr := Lib.hid (show (w.alloc (.cells #[.slice none 0 0] 38)).frozen? ⟨w.heap.size, 0, none⟩ = false by go_simp)
  clear hv hlf Hs hlen
  have h6 := h2
  clear h1
  go_enter Try.func11, Try.ntmps11
  go_wp2_with fail
  refine (F.out _ (Hv.out.alloc _)).mono ?_
  rintro e w1 ⟨m, rfl, rfl⟩
  go_wp2_with fail
  have Hv2 := Lib.hid (show RdV ((w.alloc (.cells #[.slice none 0 0] 38)).drewN m) (.slice ao ls.length cap) (cx ls) from Hv.out.alloc _)
  refine (R.out _ Hv2.out).mono ?_
  rintro e w2 ⟨v2, qs, rfl, hqs, hrd, hb2⟩
  have xr : w2.cell? ⟨w.heap.size, 0, none⟩ = some (.slice none 0 0) := (hb2.cell (p := ⟨w.heap.size, 0, none⟩) (by simp)).trans Xr.out
  have fr : w2.frozen? ⟨w.heap.size, 0, none⟩ = false := (hb2.frozen (p := ⟨w.heap.size, 0, none⟩) (by simp)).trans Fr.out
  have lr : w.heap.size < w2.heap.size := World.block_lt_of_cell? _ _ xr
  have BB := Lib.hid (show Below w.heap.size w w2 from ((below_drewN ((Below.refl _ _).alloc (Nat.le_refl _) _) m)).trans (hb2.mono (by simp)))
  have hql : qs.length = ls.length + 1 := by have := congrArg List.length hqs; rw [Hlen.out, List.length_map] at this; exact this
  have hne : qs ≠ [] := by rintro rfl; simp at hql
  have Hqs := Lib.hid hqs
  clear hqs hb2
  go_wp2_with fail
  refine (give_spec _ qs _ hrd hne (by omega)).mono ?_
  rintro e w3 ⟨v3, ts, rfl, hts, ho2, hb3⟩
  rw [Hqs.out] at hts ⊢
  generalize polyF (rootsL (ls.map nc) ls.length) = G at *
  replace xr := (hb3.cell (p := ⟨w.heap.size, 0, none⟩) lr).trans xr
  replace fr := (hb3.frozen (p := ⟨w.heap.size, 0, none⟩) lr).trans fr
  replace ho2 := ho2.mono (B' := w.heap.size + 1) lr
  replace lr : w.heap.size < w3.heap.size := World.block_lt_of_cell? _ _ xr
  replace BB := Lib.hid (show Below w.heap.size w w3 from BB.out.trans (hb3.mono BB.out.size))
  clear hb3 hql hne hrd
  obtain ⟨ao3, cap3, rfl, _⟩ := ho2.rd.shape
  simp only [cx_length] at ho2 ⊢
  have Ho2 := Lib.hid ho2
  clear ho2
  go_wp2_with fail
  (try simp only [Exit.inBlock, Exit.then]); refine bodyPost_ret (by simp [results, Try.results11, go_sem, *]; try rfl) rfl ?_
  exact ⟨_, ts, rfl, hts, OwV.setOther (g := w.heap.size) (j := 0) (Ho2.out.mono (by omega)) (.inr (by intro e; have := (Ho2.out.lt _ e).1; omega)) _, BB.out.setCell (Nat.le_refl _) _⟩

end Go.Proofs.Ytalfkkagbajjcaa

/- Comparison of numbers that rise. Conditions: the first real part is greater. -/
namespace Go.Proofs.Ytalfkkagbajjcaa
set_option linter.unusedSimpArgs false
set_option linter.unusedVariables false
open Go Go.RowKit

set_option maxRecDepth 100000 in
theorem compare_gt (a b : Nat) (h1 : fcmp .lss .f32 (nrm .f32 a) (nrm .f32 b) = false) (h2 : fcmp .gtr .f32 (nrm .f32 a) (nrm .f32 b) = true) (w : World) :
    Calls Try.prog 23 #[.float .f32 a, .float .f32 b] w fun e w' => e = .returned (.int .i64 1) ∧ w = w' := by
  go_enter Try.func23, Try.ntmps23
  go_wp2
  go_ret
  exact ⟨rfl, rfl⟩

set_option maxRecDepth 100000 in
theorem cmp_gt (x y : C2) (h1 : fcmp .lss .f32 (nc x).1 (nc y).1 = false) (h2 : fcmp .gtr .f32 (nc x).1 (nc y).1 = true) (w : World) :
    Calls Try.prog 22 #[.complex .f32 x.1 x.2, .complex .f32 y.1 y.2] w fun e w' => e = .returned (.int .i64 1) ∧ w = w' := by
  go_enter Try.func22, Try.ntmps22
  go_wp2_with fail
  refine (compare_gt x.1 y.1 h1 h2 _).mono ?_
  rintro e w1 ⟨rfl, rfl⟩
  go_wp2_with fail
  go_ret
  exact ⟨rfl, rfl⟩

end Go.Proofs.Ytalfkkagbajjcaa

/- Sorting a list whose real parts rise: nothing is moved. Conditions: 1 to 16 numbers. -/
namespace Go.Proofs.Ytalfkkagbajjcaa
set_option linter.unusedSimpArgs false
set_option linter.unusedVariables false
open Go Go.RowKit

/-- The real parts rise. -/
def Rises (F : List C2) : Prop := ∀ i, i + 1 < F.length → fcmp .lss .f32 (F.getD (i + 1) (0, 0)).1 (F.getD i (0, 0)).1 = false ∧ fcmp .gtr .f32 (F.getD (i + 1) (0, 0)).1 (F.getD i (0, 0)).1 = true

set_option maxRecDepth 100000 in
set_option maxHeartbeats 1000000 in
theorem insertion_rises (v : Value) (ls : List C2) (w : World) (hv : RdV w v (cx ls)) (h1 : 1 ≤ ls.length) (h2 : ls.length ≤ 16) (hr : Rises (ls.map nc)) :
    Calls Try.prog 61 #[v, .int .i64 0, .int .i64 ls.length, .func (.func 22) #[] #[]] w fun e w' => e = .returned (.tuple #[]) ∧ ∃ m, w' = w.drewN m := by
  rcases hv.openC with ⟨rfl, _⟩ | ⟨b, off, cap, rfl, hb, hcp, hc⟩
  · simp at h1
  have Hc := Lib.hid (show ∀ i, i < ls.length → w.cell? ⟨b, off + i, none⟩ = some (.complex .f32 (ls.getD i (0, 0)).1 (ls.getD i (0, 0)).2) from fun i hi => by
    rw [hc i hi]; simp [List.getD, hi])
  have Hr := Lib.hid (show ∀ i, i + 1 < ls.length → fcmp .lss .f32 (nc (ls.getD (i + 1) (0, 0))).1 (nc (ls.getD i (0, 0))).1 = false ∧ fcmp .gtr .f32 (nc (ls.getD (i + 1) (0, 0))).1 (nc (ls.getD i (0, 0))).1 = true from fun i hi => by
    have := hr i (by rw [List.length_map]; exact hi)
    rwa [getD_nc, getD_nc] at this)
  clear hc hv hcp hr
  generalize ls.length = N at *
  go_enter Try.func61, Try.ntmps61
  go_wp2
  go_loopw [8] (fun i wr => ∃ k m : Nat, 1 ≤ k ∧ (k ≤ N) ∧ i = .int .i64 k ∧ wr = w.drewN m) (fun i _ => N - (intOf i).toNat)
  case atStart => exact ⟨1, 0, Nat.le_refl _, h1, rfl, rfl⟩
  case round =>
    obtain ⟨k, m, hk1, hk, rfl, rfl⟩ := hrel
    by_cases hlt : k < N
    · obtain ⟨j, rfl⟩ : ∃ j, k = j + 1 := ⟨k - 1, by omega⟩
      have c1 := Hc.out (j + 1) hlt
      have c2 := Hc.out j (by omega)
      have hh := Hr.out j hlt
      generalize ls.getD (j + 1) (0, 0) = x at *
      generalize ls.getD j (0, 0) = y at *
      obtain ⟨x1, x2⟩ := x
      obtain ⟨y1, y2⟩ := y
      have CM := Lib.hid (fun w1 => cmp_gt (x1, x2) (y1, y2) hh.1 hh.2 w1)
      have q1 : IntKind.i64.wrap (j : Int) = (j : Int) := IntWalk.i64_in _ ⟨by omega, by omega⟩
      have j1 : (0 : Int) < (j : Int) + 1 := by omega
      have j2 : (j : Int) + 1 < (N : Int) := by omega
      have j3 : (0 : Int) ≤ (j : Int) := by omega
      have j4 : (j : Int) < (N : Int) := by omega
      have j5 : (0 : Int) ≤ (j : Int) + 1 := by omega
      have j6 : ((j : Int) + 1).toNat = j + 1 := by omega
      clear hh
      go_wp2
      refine wp_loop_rounds 1 ?_
      rw [rounds_succ]
      go_wp2
      refine wp_region_v 17 (fun _ _ u => u = .int .i64 1) (by kernel_rfl) (by kernel_rfl) ?_
      simp only [List.take_succ_cons, List.take_zero, List.drop_succ_cons, List.drop_zero]
      repeat (apply wpV_det; (exact rfl); (intro nq; go_simp; rfl); (intro K hK; go_simp; refine hK.use ?_; clear hK K))
      (apply wpV_call; (exact rfl); (intro nq; go_simp; first | exact ⟨rfl, rfl⟩ | rfl); (intro nq; refine (CM.out _).mono ?_; rintro e w' ⟨rfl, rfl⟩; exact ⟨_, rfl, rfl, nq, rfl⟩); (rintro u rfl); (intro K hK; go_simp; refine hK.use ?_; clear hK K))
      repeat (apply wpV_det; (exact rfl); (intro nq; go_simp; rfl); (intro K hK; go_simp; refine hK.use ?_; clear hK K))
      refine wpV_nil (fun nq => ?_)
      refine wpList_nil ?_
      go_wp2
      go_roundw
      case rel => exact ⟨j + 2, _, by omega, by omega, by go_num, rfl⟩
      case measure => simp [intOf]; omega
    · obtain rfl : k = N := by omega
      go_wp2
      first | exact ⟨rfl, _, rfl⟩ | (refine ⟨by first | rfl | simp, _, rfl⟩) | (go_returns; exact ⟨rfl, _, rfl⟩) | (simp [bodyPost]; done)

end Go.Proofs.Ytalfkkagbajjcaa

/- The stable sort of a list whose real parts rise: nothing is moved. Conditions: 1 to 16 numbers. -/
namespace Go.Proofs.Ytalfkkagbajjcaa
set_option linter.unusedSimpArgs false
set_option linter.unusedVariables false
open Go Go.RowKit

set_option maxRecDepth 100000 in
theorem stable_rises (v : Value) (ls : List C2) (w : World) (hv : RdV w v (cx ls)) (h1 : 1 ≤ ls.length) (h2 : ls.length ≤ 16) (hr : Rises (ls.map nc)) :
    Calls Try.prog 45 #[v, .int .i64 ls.length, .func (.func 22) #[] #[]] w fun e w' => e = .returned (.tuple #[]) ∧ ∃ m, w' = w.drewN m := by
  have IR := Lib.hid (insertion_rises v ls w hv h1 h2 hr)
  obtain ⟨ao, cap, rfl, _⟩ := hv.shape
  rw [cx_length] at IR ⊢
  have j1 : ¬ ((20 : Int) ≤ (ls.length : Int)) := by omega
  have j2 : ¬ ((20 : Int) < (ls.length : Int)) := by omega
  clear hv hr
  go_enter Try.func45, Try.ntmps45
  go_wp2
  refine wp_loop_rounds 1 ?_
  rw [rounds_succ]
  go_wp2_with fail
  refine IR.out.mono ?_
  rintro e w1 ⟨rfl, m, rfl⟩
  go_wp2_with fail
  refine wp_loop_rounds 1 ?_
  rw [rounds_succ]
  go_wp2
  first | exact ⟨rfl, _, rfl⟩ | (refine ⟨by first | rfl | simp, _, rfl⟩) | (go_returns; exact ⟨rfl, _, rfl⟩) | (simp [bodyPost]; done)

set_option maxRecDepth 100000 in
theorem sort_rises (v : Value) (ls : List C2) (w : World) (hv : RdV w v (cx ls)) (h1 : 1 ≤ ls.length) (h2 : ls.length ≤ 16) (hr : Rises (ls.map nc)) :
    Calls Try.prog 21 #[v, .func (.func 22) #[] #[]] w fun e w' => e = .returned (.tuple #[]) ∧ ∃ m, w' = w.drewN m := by
  have SR := Lib.hid (stable_rises v ls w hv h1 h2 hr)
  obtain ⟨ao, cap, rfl, _⟩ := hv.shape
  rw [cx_length] at SR ⊢
  clear hv hr
  go_enter Try.func21, Try.ntmps21
  go_wp2_with fail
  refine SR.out.mono ?_
  rintro e w1 ⟨rfl, m, rfl⟩
  go_wp2_with fail
  first | exact ⟨rfl, _, rfl⟩ | (refine ⟨by first | rfl | simp, _, rfl⟩) | (go_returns; exact ⟨rfl, _, rfl⟩) | (simp [bodyPost]; done)

end Go.Proofs.Ytalfkkagbajjcaa

/- OrderRoots of a list whose real parts rise: the list itself, anew. Conditions: 1 to 16 finite numbers. -/
namespace Go.Proofs.Ytalfkkagbajjcaa
set_option linter.unusedSimpArgs false
set_option linter.unusedVariables false
open Go Go.RowKit

set_option maxRecDepth 100000 in
theorem clone_impl (v : Value) (ls : List C2) (w : World) (hv : RdV w v (cx ls)) (h1 : 1 ≤ ls.length) (h2 : ls.length ≤ 16) :
    Calls Try.prog 20 #[v] w fun e w' => ∃ v', e = .returned v' ∧ OwV 35 w' w.heap.size v' (cx ls) ∧ Below w.heap.size w w' := by
  have hn : cx ls ≠ [] := by rw [← List.length_pos_iff, cx_length]; exact h1
  obtain ⟨b, off, cap, rfl, hb, _, hc⟩ := hv.open hn
  rw [cx_length] at hv ⊢
  have Hv := Lib.hid hv
  clear hv hc
  have e1 := fun w1 : World => Lib.run_eql_slice_nil (P := Try.prog) w1 25 35 (some ⟨b, off, none⟩) ls.length cap 0 0 Try.underlying25
  go_enter Try.func20, Try.ntmps20
  go_wp2_with (at_builtin; go_must (refine wpList_cloneV (.complex .f32 0 0) 8 infoC rfl (cx_one ls) (by decide) rfl _ _ rfl Try.underlying25 Hv.out hn (by simp; omega) rfl rfl rfl ?_); intro g1 cap1 w1 hg1 ho1 hb1; rw [cx_length] at ho1 ⊢)
  go_ret
  exact ⟨_, rfl, ho1, hb1⟩

set_option maxRecDepth 100000 in
set_option maxHeartbeats 1000000 in
theorem order_rises (v : Value) (ls : List C2) (w : World) (hv : RdV w v (cx ls)) (h1 : 1 ≤ ls.length) (h2 : ls.length ≤ 16) (hlf : allFinC ls = true) (hr : Rises (ls.map nc)) :
    Calls Try.prog 7 #[v] w fun e w' => ∃ v', e = .returned (.tuple #[v', .bool true]) ∧ OwV 35 w' w.heap.size v' (cx ls) ∧ Below w.heap.size w w' := by
  obtain ⟨ao, cap, rfl, _⟩ := hv.shape
  rw [cx_length] at hv ⊢
  have AR := Lib.hid (areRoots_impl _ ls w hv h1 h2)
  rw [hlf] at AR
  have Hv := Lib.hid hv
  have CL := Lib.hid (fun w1 hv => clone_impl (.slice ao ls.length cap) ls w1 hv h1 h2)
  have SR := Lib.hid (fun v w1 hv => sort_rises v ls w1 hv h1 h2 hr)
  clear hv hr hlf
  go_enter Try.func7, Try.ntmps7
  go_wp2_with fail
  refine AR.out.mono ?_
  rintro e w1 ⟨rfl, hb1⟩
  have B1 := Lib.hid hb1
  go_wp2_with fail
  refine (CL.out _ (Hv.out.below hb1)).mono ?_
  clear hb1
  rintro e w2 ⟨v2, rfl, ho2, hb2⟩
  have B2 := Lib.hid (B1.out.trans (hb2.mono B1.out.size))
  have Ho2 := Lib.hid (ho2.mono B1.out.size)
  have Hr2 := Lib.hid ho2.rd
  clear ho2 hb2
  go_wp2_with fail
  refine (SR.out _ _ Hr2.out).mono ?_
  rintro e w3 ⟨rfl, m, rfl⟩
  go_wp2_with fail
  go_ret2
  exact ⟨_, rfl, Ho2.out, below_drewN B2.out _⟩

end Go.Proofs.Ytalfkkagbajjcaa

/- New lists of one value: what 'make' gives; lists of bools and integers in memory. Conditions: lengths of at most 2^40. -/
namespace Go.Proofs.Ytalfkkagbajjcaa
set_option linter.unusedSimpArgs false
set_option linter.unusedVariables false
open Go Go.RowKit

theorem infoB : (Try.prog.info? 4).map (fun i => (i.zero, i.size, i.bytes)) = some (some (.bool false), 1, 1) := by kernel_rfl

section
variable {ops : Array Oper} {rest : List Oper} {o : Oper} {a : Act} {Q : Exit → Act → World → Prop}
theorem wpList_makeV {e : TypeId} (w : World) (z : Value) (bytes : Nat) (hinfo : (Try.prog.info? e).map (fun i => (i.zero, i.size, i.bytes)) = some (some z, 1, bytes)) (hz : z.cells = #[z]) (hby : bytes ≤ 24)
    (hg : o.guard = none) (l c : Operand) (t : TypeId) (hop : o.op = Op.makeSlice t l c) (ht : Try.prog.underlying t = some (.slice e))
    (L C : Int) (n : Nat) (hl : a.eval l = .int .i64 L) (hc : a.eval c = .int .i64 C) (hL : L = (n : Int)) (hC : C = (n : Int)) (hn : n ≤ 1099511627776)
    (hK : ∀ w', RowV e w' w.heap.size (.slice (some ⟨w.heap.size, 0, none⟩) n n) (List.replicate n z) → Below w.heap.size w w' → w.heap.size < w'.heap.size → wpList Try.prog ops Q rest (a.put o.dst (.slice (some ⟨w.heap.size, 0, none⟩) n n)) w') :
    wpList Try.prog ops Q (o :: rest) a w := by
  cases hi : Try.prog.info? e with
  | none => rw [hi] at hinfo; cases hinfo
  | some i =>
  rw [hi] at hinfo
  simp only [Option.map_some, Option.some.injEq, Prod.mk.injEq] at hinfo
  have hb : i.bytes * n ≤ 281474976710656 := by
    rw [hinfo.2.2]
    have : bytes * n ≤ 24 * n := Nat.mul_le_mul_right _ hby
    omega
  refine wpList_make_full w hg l c t hop w.heap.size e i _ 1 ht hi hinfo.1 hinfo.2.1 .i64 .i64 L C n hl hc hL hC hb (by unfold maxLen; omega) (Nat.le_refl _) ?_
  intro w1 hown hgrow
  have hrep : (madeCells z.cells (n * 1)).toList = List.replicate n z := by
    rw [Nat.mul_one, hz, toList_madeCells_one]
  rw [hrep] at hown
  refine hK w1 (by unfold RowV; rw [List.length_replicate]; exact hown) ((Below.refl _ _).grown hgrow (Nat.le_refl _) (by simp)) ?_
  rcases hown.2 with ⟨h, _⟩ | ⟨g, _, _, h, _, hg, _⟩
  · simp at h
  · simp only [Value.slice.injEq, Option.some.injEq, Addr.mk.injEq, and_true, true_and] at h
    rw [h.1]
    exact (Array.getElem?_eq_some_iff.1 hg).1
end

/-- The bools of a list whose first 'i' are set. -/
def usedV (n i : Nat) : List Value := (List.range n).map fun k => Value.bool (decide (k < i))
@[simp] theorem usedV_length (n i : Nat) : (usedV n i).length = n := by simp [usedV]
theorem usedV_zero (n : Nat) : List.replicate n (Value.bool false) = usedV n 0 := by
  apply List.ext_getElem?
  intro k
  simp only [usedV, List.getElem?_map, List.getElem?_replicate]
  by_cases h : k < n
  · simp [h]
  · simp [h, Nat.not_lt.1 h]
theorem usedV_get {n i k : Nat} (h : k < n) : (usedV n i)[k]? = some (.bool (decide (k < i))) := by simp [usedV, h]
theorem usedV_set {n i : Nat} (h : i < n) : (usedV n i).set i (.bool true) = usedV n (i + 1) := by
  apply List.ext_getElem?
  intro k
  rw [List.getElem?_set]
  by_cases hk : i = k
  · subst hk; simp [usedV, h]
  · rw [if_neg hk]
    simp only [usedV, List.getElem?_map]
    by_cases h2 : k < n
    · have : decide (k < i) = decide (k < i + 1) := by simp only [decide_eq_decide]; omega
      simp [h2, this]
    · simp [h2]
/-- The first numbers. -/
def firstI (n : Nat) : List Int := (List.range n).map (fun k : Nat => (k : Int))
@[simp] theorem firstI_length (n : Nat) : (firstI n).length = n := by simp [firstI]
theorem firstI_succ (n : Nat) : gi (firstI n) ++ [.int .i64 (n : Int)] = gi (firstI (n + 1)) := by simp [firstI, gi, List.range_succ]
end Go.Proofs.Ytalfkkagbajjcaa

/- MatchRoots of a list with itself: the identity, and no distance. Conditions: 1 to 16 finite numbers; distances fit float32, none is below 0, that of a number to itself is 0. -/
namespace Go.Proofs.Ytalfkkagbajjcaa
set_option linter.unusedSimpArgs false
set_option linter.unusedVariables false
open Go Go.RowKit

theorem RowV.setOther {e : TypeId} {w : World} {B g j : Nat} {v : Value} {xs : List Value} (h : RowV e w B v xs) (hg : v.ownBlock = none ∨ v.ownBlock ≠ some g) (u : Value) : RowV e (w.setCell ⟨g, j, none⟩ u) B v xs := World.ownsRow.kept h (grown_set2 _ _ _ _) hg
def RetM (n : Nat) (w : World) (e : Ending) (w' : World) : Prop := ∃ v, e = .returned (.tuple #[v, .float .f32 0, .bool true]) ∧ OwV 2 w' w.heap.size v (gi (firstI n)) ∧ Below w.heap.size w w'
theorem nrm_zero {r : Nat} (h : nrm .f32 r = 0) : r = 0 := by
  unfold nrm at h
  split at h
  · exact absurd h (by decide)
  · exact h
theorem order00 : FloatKind.f32.format.order 0 0 = some .eq := by decide +kernel
@[go_sem high] theorem run_max_00 {P : Program} (w : World) (ts : Array TypeId) (t : TypeId) : (Builtin.max_ ts t #[.float .f32 0, .float .f32 0]).run P w = .ok (.float .f32 0) w := by
  simp [Builtin.max_, Builtin.max2, order00]
theorem fin0 : finF (nrm .f32 0) = true := by decide +kernel

set_option maxRecDepth 100000 in
set_option maxHeartbeats 4000000 in
theorem match_self (av bv : Value) (ls : List C2) (w : World) (ha : RdV w av (cx ls)) (hb : RdV w bv (cx ls)) (h1 : 1 ≤ ls.length) (h2 : ls.length ≤ 16) (hlf : allFinC ls = true)
    (Hf : RowKit.Hid (∀ i k, i < ls.length → k < ls.length → fit1 (sqF (powerF (subC (nc (ls.getD i (0, 0))) (nc (ls.getD k (0, 0))))))))
    (Hz : RowKit.Hid (∀ i, i < ls.length → longF (subC (nc (ls.getD i (0, 0))) (nc (ls.getD i (0, 0)))) = 0))
    (Hp : RowKit.Hid (∀ i k, i < ls.length → k < ls.length → fcmp .lss .f32 (longF (subC (nc (ls.getD i (0, 0))) (nc (ls.getD k (0, 0))))) 0 = false)) :
    Calls Try.prog 8 #[av, bv] w (RetM ls.length w) := by
  have AR := Lib.hid (fun v w hv => areRoots_impl v ls w hv h1 h2)
  rw [hlf] at AR
  have Ha := Lib.hid ha
  have Hb := Lib.hid hb
  rcases ha.openC with ⟨rfl, _⟩ | ⟨b1, o1, cap1, rfl, hb1, _, hc1⟩
  · simp at h1
  rcases hb.openC with ⟨rfl, _⟩ | ⟨b2, o2, cap2, rfl, hb2, _, hc2⟩
  · simp at h1
  have Hc1 := Lib.hid (show ∀ i, i < ls.length → w.cell? ⟨b1, o1 + i, none⟩ = some (.complex .f32 (ls.getD i (0, 0)).1 (ls.getD i (0, 0)).2) from fun i hi => by
    rw [hc1 i hi]; simp [List.getD, hi])
  have Hc2 := Lib.hid (show ∀ i, i < ls.length → w.cell? ⟨b2, o2 + i, none⟩ = some (.complex .f32 (ls.getD i (0, 0)).1 (ls.getD i (0, 0)).2) from fun i hi => by
    rw [hc2 i hi]; simp [List.getD, hi])
  clear ha hb hc1 hc2 hlf
  generalize hN : ls.length = N at *
  go_enter Try.func8, Try.ntmps8
  go_wp2_with fail
  refine (AR.out _ _ Ha.out).mono ?_
  rintro e w1 ⟨rfl, hq1⟩
  have A2 := Lib.hid (Hb.out.below hq1)
  have Q1 := Lib.hid hq1
  clear hq1
  go_wp2_with fail
  refine (AR.out _ _ A2.out).mono ?_
  rintro e w2 ⟨rfl, hq2⟩
  have Q2 := Lib.hid (Q1.out.trans (hq2.mono Q1.out.size))
  clear A2 hq2 AR Ha Hb
  go_wp2_with (at_make; go_must (refine wpList_makeV _ (.bool false) 1 infoB rfl (by decide) rfl _ _ _ rfl Try.underlying53 (N : Int) (N : Int) N rfl rfl rfl rfl (by omega) ?_); intro w3 hu hq3 hl3)
  have Q3 := Lib.hid (show Below w.heap.size w w3 from (Q2.out.alloc Q2.out.size _).trans (hq3.mono (by have := Q2.out.size; simp; omega)))
  have Hw3 := Lib.hid (show w2.heap.size + 1 ≤ w3.heap.size by have := hq3.size; simpa using this)
  have R3 := Lib.hid (show RowV 2 w3 w2.heap.size (.slice (some ⟨w2.heap.size, 0, none⟩) 0 0) (gi (firstI 0)) from (row_nil (Nat.le_refl _) 2).below hq3)
  rw [usedV_zero] at hu
  have U3 := Lib.hid hu.own
  have hsz2 := Q2.out.size
  simp only [World.size_alloc] at U3 hl3
  clear hq3 hu Q1
  generalize hU : w2.heap.size + 1 = U at *
  go_wp2_with fail
  go_loopw [7, 8, 38] (fun ov mv iv wr => ∃ (i : Nat), i ≤ N ∧ iv = .int .i64 i ∧ mv = .float .f32 0 ∧ RowV 2 wr w2.heap.size ov (gi (firstI i)) ∧ OwV 4 wr w2.heap.size (.slice (some ⟨U, 0, none⟩) N N) (usedV N i) ∧ Below w.heap.size w wr ∧ ov.ownBlock ≠ some U) (fun _ _ iv _ => N - (intOf iv).toNat)
  case atStart =>
    refine ⟨0, Nat.zero_le _, rfl, rfl, R3.out, U3.out.mono (by omega), Q3.out, ?_⟩
    · simp [Value.ownBlock]; omega
  case round =>
    obtain ⟨i, hi, rfl, rfl, hrow, hused, hbel, hne⟩ := hrel
    by_cases hlt : i < N
    · have c1 := (hbel.cell (p := ⟨b1, o1 + i, none⟩) hb1).trans (Hc1.out i hlt)
      have j1 : (0 : Int) ≤ (i : Int) := by omega
      have j2 : (i : Int) < (N : Int) := by omega
      have Hrow := Lib.hid hrow
      have Hus := Lib.hid hused
      have Hbel := Lib.hid hbel
      have Hne := Lib.hid hne
      have DF := Lib.hid (fun k hk => Hf.out i k hlt hk)
      have DZ := Lib.hid (Hz.out i hlt)
      have DP := Lib.hid (fun k hk => Hp.out i k hlt hk)
      obtain ⟨x, HX⟩ : ∃ x, RowKit.Hid (ls.getD i (0, 0) = x) := ⟨_, Lib.hid rfl⟩
      rw [HX.out] at c1 DF DZ DP
      obtain ⟨x1, x2⟩ := x
      have USED := Lib.hid (show ∀ k, k < N → wr.cell? ⟨U, k, none⟩ = some (.bool (decide (k < i))) from fun k hk => by
        obtain ⟨g, cap, hv, _, _, _, _, hcell, _⟩ := hused.open (by intro h; have := congrArg List.length h; simp at this; omega)
        simp only [Value.slice.injEq, Option.some.injEq, Addr.mk.injEq, and_true, true_and] at hv
        rw [hv.1, hcell k (by simpa using hk), usedV_get hk])
      have FRZ := Lib.hid (show ∀ k, wr.frozen? ⟨U, k, none⟩ = false from fun k => by
        obtain ⟨g, cap, hv, _, _, _, _, _, hfz⟩ := hused.open (by intro h; have := congrArg List.length h; simp at this; omega)
        simp only [Value.slice.injEq, Option.some.injEq, Addr.mk.injEq, and_true, true_and] at hv
        rw [hv.1]; exact hfz k)
      clear hrow hused hbel hne
      go_wp2_with fail
      go_loopw [12, 13, 44] (fun dv qv kv wi => ∃ (k m : Nat) (q : Int), k ≤ N ∧ kv = .int .i64 k ∧ dv = .float .f32 0 ∧ qv = .int .i64 q ∧ (if k ≤ i then q = -1 else q = (i : Int)) ∧ wi = wr.drewN m) (fun _ _ kv _ => N - (intOf kv).toNat)
      case atStart => exact ⟨0, 0, -1, Nat.zero_le _, rfl, rfl, rfl, by simp, rfl⟩
      case round =>
        obtain ⟨k, m, q, hk, rfl, rfl, rfl, hq, rfl⟩ := hrel
        by_cases hk2 : k < N
        · have c2 := (Hbel.out.cell (p := ⟨b2, o2 + k, none⟩) hb2).trans (Hc2.out k hk2)
          have u1 := USED.out k hk2
          have F1 := Lib.hid (DF.out k hk2)
          have P1 := Lib.hid (DP.out k hk2)
          have Z1 := Lib.hid (show k = i → longF (subC (nc (x1, x2)) (nc (ls.getD k (0, 0)))) = 0 from fun h => by subst h; rw [HX.out]; exact DZ.out)
          generalize ls.getD k (0, 0) = y at *
          obtain ⟨y1, y2⟩ := y
          have j3 : (0 : Int) ≤ (k : Int) := by omega
          have j4 : (k : Int) < (N : Int) := by omega
          go_wp2_with fail
          refine (minus_impl (x1, x2) (y1, y2) _).mono ?_
          rintro e w' ⟨g1, g2, m1, rfl, hg1, hg2, rfl⟩
          have Hg1 := Lib.hid (show nc (g1, g2) = subC (nc (x1, x2)) (nc (y1, y2)) from Prod.ext hg1 hg2)
          clear hg1 hg2
          go_wp2_with fail
          refine (long_impl (g1, g2) (Lib.hid (by rw [Hg1.out]; exact F1.out)) _).mono ?_
          rw [Hg1.out]
          rintro e w' ⟨r, m2, rfl, hr, rfl⟩
          rcases Nat.lt_trichotomy k i with hlt3 | heq | hgt
          · have hd : decide (k < i) = true := decide_eq_true hlt3
            rw [hd] at u1
            rw [if_pos (by omega)] at hq
            subst hq
            clear hr
            go_wp2
            go_roundw
            case rel => exact ⟨k + 1, _, -1, by omega, by go_num, rfl, rfl, by first | (rw [if_pos (by omega)]) | (rw [if_neg (by omega)]), rfl⟩
            case measure => simp [intOf]; omega
          · subst heq
            have hd : decide (k < k) = false := by simp
            rw [hd] at u1
            rw [if_pos (by omega)] at hq
            subst hq
            have r0 : r = 0 := nrm_zero (hr.trans (Z1.out rfl))
            subst r0
            clear hr
            go_wp2
            go_roundw
            case rel => exact ⟨k + 1, _, (k : Int), by omega, by go_num, rfl, rfl, by first | (rw [if_pos (by omega)]) | (rw [if_neg (by omega)]), rfl⟩
            case measure => simp [intOf]; omega
          · have hd : decide (k < i) = false := by simp; omega
            rw [hd] at u1
            rw [if_neg (by omega)] at hq
            subst hq
            have hc2 : fcmp .lss .f32 (nrm .f32 r) (nrm .f32 0) = false := by rw [hr, nrm0]; exact P1.out
            have j5 : ¬ (i : Int) < 0 := by omega
            clear hr
            go_wp2
            go_roundw
            case rel => exact ⟨k + 1, _, (i : Int), by omega, by go_num, rfl, rfl, by first | (rw [if_pos (by omega)]) | (rw [if_neg (by omega)]), rfl⟩
            case measure => simp [intOf]; omega
        · obtain rfl : k = N := by omega
          rw [if_neg (by omega)] at hq
          subst hq
          have u1 := USED.out i hlt
          have f1 := FRZ.out i
          have hrow' := RowV.setOther (j := i) (Hrow.out.below (below_drewN (Below.refl _ _) m)) (.inr Hne.out) (.bool true)
          have hus' := Lib.hid (show OwV 4 ((wr.drewN m).setCell ⟨U, i, none⟩ (.bool true)) w2.heap.size (.slice (some ⟨U, 0, none⟩) k k) (usedV k (i + 1)) from by
            have := (Hus.out.below (below_drewN (Below.refl _ _) m)).set i (.bool true)
            rwa [usedV_set hlt] at this)
          have Bs := Lib.hid (show Below w.heap.size w ((wr.drewN m).setCell ⟨U, i, none⟩ (.bool true)) from (below_drewN Hbel.out m).setCell (by simp only; omega) _)
          have Hl := Lib.hid (show (gi (firstI i)).length ≤ 1099511627776 by simp; omega)
          have hszr := Hbel.out.size
          have HB := Lib.hid (show w2.heap.size ≤ ((wr.drewN m).setCell ⟨U, i, none⟩ (.bool true)).heap.size by
            have := (Hus.out.lt U rfl).2
            simp [World.setCell]; omega)
          go_wp2_with (at_builtin; go_must (refine wpList_pushV (.int .i64 0) 8 hrow' infoI rfl rfl (by decide) rfl _ _ rfl Try.underlying29 Hl.out HB.out rfl (by first | rfl | (simp only [World.size_setCell]; rfl) | (simp; done)) rfl rfl rfl rfl ?_); intro v1 w4 hr1 hb4 hg4 ho4)
          go_roundw
          case rel =>
            refine ⟨i + 1, by omega, by go_num, rfl, by rw [← firstI_succ]; exact hr1, ?_, Bs.out.trans (hb4.mono hsz2), ?_⟩
            · exact hus'.out.kept hg4 (.inr fun h => Hne.out h.symm)
            · rcases ho4 with h | ⟨g, h, hge⟩
              · rw [h]; exact Hne.out
              · rw [h]
                have := (hus'.out.lt U rfl).2
                simp; omega
          case measure => simp [intOf]; omega
    · obtain rfl : i = N := by omega
      have Hres := Lib.hid (hrow.own.mono hsz2)
      have Hbel := Lib.hid hbel
      clear hrow hbel hused
      go_wp2_with fail
      refine (isFinite_impl 0 _).mono ?_
      rw [fin0]
      rintro e w' ⟨m, rfl, rfl⟩
      go_wp2_with fail
      refine bodyPost_ret (by simp [results, Try.results8, go_sem]; try rfl) rfl ?_
      exact ⟨_, rfl, Hres.out.below (below_drewN (Below.refl _ _) _), below_drewN Hbel.out _⟩

end Go.Proofs.Ytalfkkagbajjcaa

/- Clusters, plainly: numbers that are near get one number by and by; the numbers are counted anew in the order in which they come. Conditions: none. -/
namespace Go.Proofs.Ytalfkkagbajjcaa
set_option linter.unusedSimpArgs false
set_option linter.unusedVariables false
open Go

def mergeN (C : List Int) (f t : Int) : Nat → List Int
  | 0 => C
  | j + 1 => if (mergeN C f t j).getD j 0 = f then (mergeN C f t j).set j t else mergeN C f t j
theorem mergeN_length (C : List Int) (f t : Int) (j : Nat) : (mergeN C f t j).length = C.length := by
  induction j with
  | zero => rfl
  | succ j ih => unfold mergeN; split <;> simp [ih]
theorem mergeN_get (C : List Int) (f t : Int) (j q : Nat) (hq : q < C.length) : (mergeN C f t j).getD q 0 = if q < j ∧ C.getD q 0 = f then t else C.getD q 0 := by
  induction j with
  | zero => simp [mergeN]
  | succ j ih =>
    have hj : (mergeN C f t j).length = C.length := mergeN_length C f t j
    unfold mergeN
    by_cases hqj : q = j
    · subst hqj
      rw [if_neg (by omega)] at ih
      rw [ih]
      by_cases h : C.getD q 0 = f
      · rw [if_pos h, if_pos ⟨by omega, h⟩]
        simp [List.getD, hj, hq]
      · rw [if_neg h, if_neg (fun hh => h hh.2), ih]
    · have e : ∀ x : List Int, x.length = C.length → (x.set j t).getD q 0 = x.getD q 0 := fun x _ => by
        simp only [List.getD]
        rw [List.getElem?_set_ne (by omega)]
      have e2 : (q < j + 1 ∧ C.getD q 0 = f) ↔ (q < j ∧ C.getD q 0 = f) := by constructor <;> rintro ⟨a, b⟩ <;> exact ⟨by omega, b⟩
      simp only [e2]
      split
      · rw [e _ hj, ih]
      · exact ih
/-- One number's round: k others. -/
def clI (close : Nat → Nat → Bool) (i : Nat) (C : List Int) : Nat → List Int
  | 0 => C
  | k + 1 => if close i k = true then mergeN (clI close i C k) (max ((clI close i C k).getD i 0) ((clI close i C k).getD k 0)) (min ((clI close i C k).getD i 0) ((clI close i C k).getD k 0)) C.length else clI close i C k
def clO (close : Nat → Nat → Bool) (n : Nat) : Nat → List Int
  | 0 => firstI n
  | i + 1 => clI close i (clO close n i) i
theorem clI_length (close : Nat → Nat → Bool) (i : Nat) (C : List Int) (k : Nat) : (clI close i C k).length = C.length := by
  induction k with
  | zero => rfl
  | succ k ih => unfold clI; split <;> simp [mergeN_length, ih]
theorem clO_length (close : Nat → Nat → Bool) (n i : Nat) : (clO close n i).length = n := by
  induction i with
  | zero => simp [clO]
  | succ i ih => rw [clO, clI_length, ih]
theorem mergeN_keep {C : List Int} {f t : Int} {j a b : Nat} (ha : a < C.length) (hb : b < C.length) (hj : C.length ≤ j) (h : C.getD a 0 = C.getD b 0) : (mergeN C f t j).getD a 0 = (mergeN C f t j).getD b 0 := by
  rw [mergeN_get C f t j a ha, mergeN_get C f t j b hb, h]
  have e : (a < j ∧ C.getD b 0 = f) ↔ (b < j ∧ C.getD b 0 = f) := by constructor <;> rintro ⟨_, q⟩ <;> exact ⟨by omega, q⟩
  simp only [e]
theorem clI_keep {close : Nat → Nat → Bool} {i : Nat} {C : List Int} {a b : Nat} (ha : a < C.length) (hb : b < C.length) (h : C.getD a 0 = C.getD b 0) (k : Nat) : (clI close i C k).getD a 0 = (clI close i C k).getD b 0 := by
  induction k with
  | zero => exact h
  | succ k ih =>
    unfold clI
    split
    · exact mergeN_keep (by rw [clI_length]; exact ha) (by rw [clI_length]; exact hb) (by rw [clI_length]; exact Nat.le_refl _) ih
    · exact ih
theorem clI_eq {close : Nat → Nat → Bool} {i : Nat} {C : List Int} (hi : i < C.length) {k : Nat} (hk : k < C.length) (h : close i k = true) (m : Nat) (hm : k < m) : (clI close i C m).getD i 0 = (clI close i C m).getD k 0 := by
  induction m with
  | zero => omega
  | succ m ih =>
    by_cases hkm : k = m
    · subst hkm
      unfold clI
      rw [if_pos h]
      generalize hD : clI close i C k = D
      have hl : D.length = C.length := by rw [← hD, clI_length]
      rw [mergeN_get D _ _ _ i (by omega), mergeN_get D _ _ _ k (by omega)]
      generalize D.getD i 0 = u
      generalize D.getD k 0 = v
      have e1 : (i < C.length ∧ u = max u v) ↔ u = max u v := ⟨fun h => h.2, fun h => ⟨hi, h⟩⟩
      have e2 : (k < C.length ∧ v = max u v) ↔ v = max u v := ⟨fun h => h.2, fun h => ⟨hk, h⟩⟩
      simp only [e1, e2]
      split <;> split <;> omega
    · have := ih (by omega)
      unfold clI
      split
      · exact mergeN_keep (by rw [clI_length]; exact hi) (by rw [clI_length]; exact hk) (by rw [clI_length]; exact Nat.le_refl _) this
      · exact this
/-- Near ones have one number in the end. -/
theorem clO_eq {close : Nat → Nat → Bool} {n i k : Nat} (hi : i < n) (hk : k < i) (h : close i k = true) (m : Nat) (hm : i < m) : (clO close n m).getD i 0 = (clO close n m).getD k 0 := by
  induction m with
  | zero => omega
  | succ m ih =>
    rw [clO]
    by_cases him : i = m
    · subst him
      exact clI_eq (by rw [clO_length]; exact hi) (by rw [clO_length]; omega) h i hk
    · exact clI_keep (by rw [clO_length]; exact hi) (by rw [clO_length]; omega) (ih (by omega)) m

/-- The numbers lie between 0 and n. -/
theorem clI_bound {close : Nat → Nat → Bool} {i : Nat} {C : List Int} {B : Int} (hi : i < C.length) (h : ∀ q, q < C.length → 0 ≤ C.getD q 0 ∧ C.getD q 0 ≤ B) (k : Nat) (hk : k ≤ C.length) :
    ∀ q, q < C.length → 0 ≤ (clI close i C k).getD q 0 ∧ (clI close i C k).getD q 0 ≤ B := by
  induction k with
  | zero => exact h
  | succ k ih =>
    have ih := ih (by omega)
    intro q hq
    unfold clI
    split
    · have hl := clI_length close i C k
      generalize clI close i C k = D at *
      rw [mergeN_get D _ _ _ q (by omega)]
      have a1 := ih q hq
      have a2 := ih i hi
      have a3 := ih k (by omega)
      split
      · generalize D.getD i 0 = u at *
        generalize D.getD k 0 = v at *
        omega
      · exact a1
    · exact ih q hq
theorem clO_bound (close : Nat → Nat → Bool) (n m : Nat) (hm : m ≤ n := by omega) : ∀ q, q < n → 0 ≤ (clO close n m).getD q 0 ∧ (clO close n m).getD q 0 ≤ (n : Int) := by
  induction m with
  | zero =>
    intro q hq
    have : (firstI n).getD q 0 = (q : Int) := by simp [firstI, List.getD, hq]
    rw [clO, this]; omega
  | succ m ih =>
    have hl := clO_length close n m
    intro q hq
    rw [clO]
    exact clI_bound (by omega) (fun q hq => ih (by omega) q (by omega)) m (by omega) q (by omega)

/-- The numbers in the order in which they come. -/
def seenC (C : List Int) : Nat → List Int
  | 0 => []
  | j + 1 => if C.getD j 0 ∈ seenC C j then seenC C j else seenC C j ++ [C.getD j 0]
theorem seen_succ (C : List Int) (j : Nat) : seenC C (j + 1) = if C.getD j 0 ∈ seenC C j then seenC C j else seenC C j ++ [C.getD j 0] := rfl
def outC (C : List Int) (j : Nat) : Int := (((seenC C (j + 1)).idxOf (C.getD j 0) : Nat) : Int)
theorem seen_mem (C : List Int) (j : Nat) : C.getD j 0 ∈ seenC C (j + 1) := by
  rw [seen_succ]
  split
  · assumption
  · simp
theorem seen_idx (C : List Int) {a : Int} {j m : Nat} (h : a ∈ seenC C j) (hm : j ≤ m) : a ∈ seenC C m ∧ (seenC C m).idxOf a = (seenC C j).idxOf a := by
  induction m with
  | zero => obtain rfl : j = 0 := by omega
            exact ⟨h, rfl⟩
  | succ m ih =>
    by_cases hj : j = m + 1
    · subst hj; exact ⟨h, rfl⟩
    · obtain ⟨a1, a2⟩ := ih (by omega)
      rw [seen_succ]
      split
      · exact ⟨a1, a2⟩
      · exact ⟨List.mem_append_left _ a1, by rw [List.idxOf_append, if_pos a1, a2]⟩
theorem outC_eq (C : List Int) {i k : Nat} (hk : k ≤ i) (h : C.getD i 0 = C.getD k 0) : outC C i = outC C k := by
  unfold outC
  rw [h, (seen_idx C (seen_mem C k) (show k + 1 ≤ i + 1 by omega)).2]
theorem outC_nonneg (C : List Int) (j : Nat) : 0 ≤ outC C j := by unfold outC; omega
/-- The greatest number so far, and one more. -/
theorem seen_le (C : List Int) (j : Nat) : (seenC C j).length ≤ j := by
  induction j with
  | zero => simp [seenC]
  | succ j ih =>
    rw [seen_succ]
    by_cases h : C.getD j 0 ∈ seenC C j
    · rw [if_pos h]; omega
    · rw [if_neg h, List.length_append]; simp only [List.length_cons, List.length_nil]; omega
end Go.Proofs.Ytalfkkagbajjcaa
