/- A fit on a circle seen from the side, of the program and of the reference: the same. Conditions: none. -/
import Derived.Test.YtcbaanidbkjmcaaArgsF
import Derived.Test.YtcbaanidbkjmcaaPoints
namespace Go.Proofs.Ytcbaanidbkjmcaa
open Go Go.RowKit

def fitSum (ws : List Nat) (j : Nat) : Nat → Nat
  | 0 => nrm .f32 0
  | k + 1 => fop .add .f32 (fitSum ws j k) (fop .mul .f32 (ws.getD k 0) (sineN (argX ws.length j k)))
def fitBy (n j : Nat) : Nat := if j = 0 then fop .quo .f32 (nrm .f32 1065353216) (nrm .f32 (floatOfInt .f32 (n : Int))) else fop .quo .f32 (nrm .f32 1073741824) (nrm .f32 (floatOfInt .f32 (n : Int)))
def fitAt (ws : List Nat) (j : Nat) : Nat := fop .mul .f32 (fitSum ws j ws.length) (fitBy ws.length j)
def fitL (ws : List Nat) (j : Nat) : List Nat := (List.range j).map (fitAt ws)
theorem fitL_succ (ws : List Nat) (j : Nat) : fitL ws (j + 1) = fitL ws j ++ [fitAt ws j] := by simp [fitL, List.range_succ]
def fitOk (ws : List Nat) : Bool := inB 1 ws.length 17 && ws.all finF
def fitF (ws : List Nat) : List Nat × Bool := if fitOk ws = true ∧ (fitL ws ws.length).all finF = true then (fitL ws ws.length, true) else ([], false)
theorem fitF_le (ws : List Nat) : (fitF ws).1.length ≤ 1048576 := by
  unfold fitF
  split
  · rename_i h
    have h1 := h.1
    simp only [fitOk, Bool.and_eq_true, inB_true] at h1
    simp [fitL]; omega
  · simp

theorem wrap_fit (j k : Nat) (hj : j < 18) (hk : k < 18) : IntKind.i64.wrap ((j : Int) * (2 * (k : Int) + 1)) = ((j * (2 * k + 1) : Nat) : Int) := by
  have h1 : j * (2 * k + 1) ≤ 17 * 35 := Nat.mul_le_mul (by omega) (by omega)
  have h2 : ((j * (2 * k + 1) : Nat) : Int) = (j : Int) * (2 * (k : Int) + 1) := by rw [Int.natCast_mul, Int.natCast_add, Int.natCast_mul]; rfl
  rw [← h2]
  generalize j * (2 * k + 1) = q at *
  exact IntWalk.i64_in _ (by omega)

theorem argX_fit (n j k : Nat) : turnF (floatOfInt .f32 ((j * (2 * k + 1) : Nat) : Int)) (floatOfInt .f32 (4 * (n : Int))) = argX n j k := rfl

def FitRel (ws : List Nat) (w : World) (v i : Value) (wr : World) : Prop :=
  ∃ (j : Nat) (ss : List Nat), j ≤ ws.length ∧ i = .int .i64 j ∧ ss.length = j ∧ ss.map (nrm .f32) = fitL ws j ∧ wr.ownsRow w.heap.size 22 1 v j (ss.map (Value.float .f32)) ∧ Below w.heap.size w wr
def FitIn (ws : List Nat) (j : Nat) (w : World) (u i : Value) (wr : World) : Prop :=
  ∃ (k ur m : Nat), k ≤ ws.length ∧ i = .int .i64 k ∧ u = .float .f32 ur ∧ nrm .f32 ur = fitSum ws j k ∧ wr = w.drewN m

set_option maxRecDepth 100000 in
set_option maxHeartbeats 800000 in
theorem fit_impl (v : Value) (rs : List Nat) (w : World) (hv : RdF w v rs) (hl : rs.length ≤ 1099511627776) : Calls Try.prog 29 #[v] w (RetRowB (fitF (rs.map (nrm .f32))) w) := by
  obtain ⟨i0, hi, hz0, hz1, hz2⟩ := info_parts info22
  have Hv := Lib.hid hv
  obtain ⟨ao, cap, rfl, hc⟩ := hv
  have hl1 : (rs.length : Int) ≤ 1099511627776 := by omega
  have no : fitOk (rs.map (nrm .f32)) = false → ∀ (e : Ending) (w' : World), (e = .returned (.tuple #[.slice none 0 0, .bool false]) ∧ Below w.heap.size w w') → RetRowB (fitF (rs.map (nrm .f32))) w e w' := by
    rintro hno e w' ⟨rfl, hb⟩
    rw [show fitF (rs.map (nrm .f32)) = ([], false) by simp [fitF, hno]]
    exact ⟨_, [], rfl, rfl, World.ownsRow_nil _ _ _ _, hb⟩
  by_cases hn1 : (rs.length : Int) < 1
  · have hin : inB 1 rs.length 17 = false := inB_false.2 (by omega)
    refine Calls.mono ?_ (no (by rw [fitOk, List.length_map, hin]; rfl))
    clear no hc
    go_enter Try.func29, Try.ntmps29
    go_wp2_with (go_at_call 46; refine (areFinite_impl _ _ _ Hv.out hl).mono ?_; rintro e w' ⟨m, rfl, rfl⟩)
    go_ret2
    exact ⟨rfl, Below.refl _ _⟩
  by_cases hn2 : 17 < (rs.length : Int)
  · have hin : inB 1 rs.length 17 = false := inB_false.2 (by omega)
    refine Calls.mono ?_ (no (by rw [fitOk, List.length_map, hin]; rfl))
    clear no hc
    go_enter Try.func29, Try.ntmps29
    go_wp2_with (go_at_call 46; refine (areFinite_impl _ _ _ Hv.out hl).mono ?_; rintro e w' ⟨m, rfl, rfl⟩)
    go_ret2
    exact ⟨rfl, Below.refl _ _⟩
  have hin : inB 1 rs.length 17 = true := inB_true.2 (by omega)
  cases ha : allFin rs
  · refine Calls.mono ?_ (no (by rw [fitOk, ← allFin_map, ha]; simp))
    clear no hc
    go_enter Try.func29, Try.ntmps29
    go_wp2_with (go_at_call 46; refine (areFinite_impl _ _ _ Hv.out hl).mono ?_; rintro e w' ⟨m, rfl, rfl⟩)
    go_ret2
    exact ⟨rfl, below_drewN (Below.refl _ _) _⟩
  obtain ⟨b, off, rfl, hcell⟩ := hc.resolve_left (fun e => by rw [e] at hn1; simp at hn1)
  have Hc := Lib.hid hcell
  have Hfo := Lib.hid (show fitOk (rs.map (nrm .f32)) = true by rw [fitOk, List.length_map, hin, ← allFin_map, ha]; rfl)
  clear no hc hcell
  go_enter Try.func29, Try.ntmps29
  go_wp2_with (go_at_call 46; refine (areFinite_impl _ _ _ Hv.out hl).mono ?_; rintro e w' ⟨m, rfl, rfl⟩)
  go_loopw [5, 26] (fun u i wr => FitRel (rs.map (nrm .f32)) w u i wr) (fun _ i _ => rs.length - (intOf i).toNat)
  case atStart => exact ⟨0, [], Nat.zero_le _, rfl, by simp, by simp [fitL], World.ownsRow_lit _ _ _ (by simp) (by decide) rfl, ((below_drewN (Below.refl _ _) _).alloc (Nat.le_refl _) _)⟩
  case round =>
    obtain ⟨j, ss, hj, rfl, hss, hval, hown, hbel⟩ := hrel
    rw [List.length_map] at hj
    obtain ⟨wo, rfl⟩ : ∃ wo : World, wo = wr := ⟨_, rfl⟩
    have hw1 : w.heap.size ≤ wo.heap.size := hbel.size
    have Hval := Lib.hid hval
    have Hss := Lib.hid hss
    have Hbel := Lib.hid hbel
    have Ho := Lib.hid hown
    clear hval hss hbel
    by_cases hlt : j < rs.length
    · have j1 : (0 : Int) ≤ (j : Int) := by omega
      have j2 : (j : Int) ≤ 16 := by omega
      have cells : ∀ (k : Nat) (h : k < rs.length), wo.cell? ⟨b, off + k, none⟩ = some (.float .f32 rs[k]) := fun k h => by
        rw [Hbel.out.cell (World.block_lt_of_cell? w _ (Hc.out k h))]; exact Hc.out k h
      have Hcell := Lib.hid cells
      clear cells
      cases he : ((j : Int) == 0)
      all_goals
        go_wp2_with fail
        go_loopw [7, 31] (fun u i wr => FitIn (rs.map (nrm .f32)) j wo u i wr) (fun _ i _ => rs.length - (intOf i).toNat)
        case atStart => exact ⟨0, 0, 0, Nat.zero_le _, rfl, rfl, rfl, rfl⟩
        case round =>
          obtain ⟨k, ur, m, hk, rfl, rfl, hu, rfl⟩ := hrel
          rw [List.length_map] at hk
          by_cases hlt2 : k < rs.length
          · have c1 := Hcell.out k hlt2
            have hy : nrm .f32 rs[k] = (rs.map (nrm .f32)).getD k 0 := by simp [List.getD, hlt2]
            have hwr := wrap_fit j k (by omega) (by omega)
            have Hok := Lib.hid (show okX (turnF (floatOfInt .f32 ((j * (2 * k + 1) : Nat) : Int)) (floatOfInt .f32 (4 * (rs.length : Int)))) = true by rw [argX_fit]; exact arg_fit (by omega) hlt hlt2)
            have Hx := Lib.hid (argX_fit rs.length j k)
            have Hu := Lib.hid hu
            have Hy := Lib.hid hy
            clear hu hy
            generalize rs[k] = y at c1 Hy
            generalize ((j * (2 * k + 1) : Nat) : Int) = D at *
            have k1 : (0 : Int) ≤ (k : Int) := by omega
            have k2 : (k : Int) ≤ 16 := by omega
            have k3 : (k : Int) < (rs.length : Int) := by omega
            go_wp2_with (first | (with_reducible refine wpList_fop rfl _ _ _ _ _ rfl rfl .f32 _ _ rfl rfl ?_; intro r m hr) | (go_at_call 52; refine (sineTurns_at _ _ _ (by simp only [*]; rfl) Hok.out).mono ?_; rintro e w' ⟨rs1, ms, rfl, hs, rfl⟩))
            go_roundw
            case rel =>
              refine ⟨k + 1, _, _, by rw [List.length_map]; omega, by go_num, rfl, ?_, by first | rfl | (simp only [World.drewN_drewN]; rfl)⟩
              simp only [fitSum, ← Hu.out, ← Hy.out, List.length_map, ← Hx.out, *]
            case measure => simp [intOf]; omega
          · obtain rfl : k = rs.length := by omega
            have Hu := Lib.hid hu
            clear hu
            go_wp2_with (first | (with_reducible refine wpList_fop rfl _ _ _ _ _ rfl rfl .f32 _ _ rfl rfl ?_; intro r m hr) | (at_builtin; (refine wpList_push hown i0 _ 4 hi hz0 hz1 hz2 rfl rfl _ _ 31 rfl Try.underlying31 _ _ rfl rfl rfl rfl (by unfold maxLen; omega) (by omega) (by omega) ?_); intro g1 cap1 w2 hown2 hat2 hlt2 hgrow2))
            go_roundw
            case rel =>
              refine ⟨j + 1, ss ++ [_], by rw [List.length_map]; omega, by go_num, by simp [Hss.out], ?_, by simpa using hown2, ?_⟩
              · have hz := he
                have hj0 : fitBy rs.length j = (if ((j : Int) == 0) = true then fop .quo .f32 (nrm .f32 1065353216) (nrm .f32 (floatOfInt .f32 (rs.length : Int))) else fop .quo .f32 (nrm .f32 1073741824) (nrm .f32 (floatOfInt .f32 (rs.length : Int)))) := by
                  unfold fitBy
                  by_cases h0 : j = 0 <;> simp [h0]
                rw [fitL_succ, List.map_append, Hval.out, List.map_cons, List.map_nil, fitAt, List.length_map, hj0, hz, ← Hu.out]
                simp only [*, if_true, Bool.false_eq_true, if_false]
              · exact (Hbel.out).trans ⟨hgrow2.os, hgrow2.tape, hgrow2.output, hgrow2.size, fun q hq => hgrow2.block q (by simp; omega) (fun e => by
                  have := (Ho.out.lt q e.symm).1
                  omega)⟩
            case measure => simp [intOf]; omega
    · obtain rfl : j = rs.length := by omega
      have hval := Hval.out
      have hrd : RdF wo _ ss := ownsRow_rd (by rw [Hss.out]; exact hown)
      have Hrd := Lib.hid hrd
      have hlen : ss.length ≤ 1099511627776 := by rw [Hss.out]; exact hl
      have Hlen := Lib.hid hlen
      clear hval hrd hlen
      cases hf : allFin ss
      · have H := Lib.hid (show fitF (rs.map (nrm .f32)) = ([], false) by
          rw [fitF, if_neg]; rw [List.length_map, ← Hval.out, ← allFin_map, hf]; simp)
        go_wp2_with (go_at_call 46; refine (areFinite_impl _ _ _ (by exact Hrd.out) Hlen.out).mono ?_; rintro e w' ⟨m, rfl, rfl⟩)
        go_ret2
        rw [H.out]
        exact ⟨_, [], rfl, rfl, World.ownsRow_nil _ _ _ _, below_drewN Hbel.out _⟩
      · have H := Lib.hid (show fitF (rs.map (nrm .f32)) = (fitL (rs.map (nrm .f32)) rs.length, true) by
          rw [fitF, if_pos]; · rw [List.length_map]
          rw [List.length_map, ← Hval.out, ← allFin_map, hf]; exact ⟨Hfo.out, rfl⟩)
        go_wp2_with (go_at_call 46; refine (areFinite_impl _ _ _ (by exact Hrd.out) Hlen.out).mono ?_; rintro e w' ⟨m, rfl, rfl⟩)
        go_ret2
        rw [H.out]
        exact ⟨_, ss, rfl, Hval.out, by rw [Hss.out]; exact hown, below_drewN Hbel.out _⟩

set_option maxRecDepth 100000 in
set_option maxHeartbeats 800000 in
theorem fit_spec (v : Value) (rs : List Nat) (w : World) (hv : RdF w v rs) (hl : rs.length ≤ 1099511627776) : Calls Try.prog 28 #[v] w (RetRowB (fitF (rs.map (nrm .f32))) w) := by
  obtain ⟨i0, hi, hz0, hz1, hz2⟩ := info_parts info22
  have Hv := Lib.hid hv
  obtain ⟨ao, cap, rfl, hc⟩ := hv
  have hl1 : (rs.length : Int) ≤ 1099511627776 := by omega
  have no : fitOk (rs.map (nrm .f32)) = false → ∀ (e : Ending) (w' : World), (e = .returned (.tuple #[.slice none 0 0, .bool false]) ∧ Below w.heap.size w w') → RetRowB (fitF (rs.map (nrm .f32))) w e w' := by
    rintro hno e w' ⟨rfl, hb⟩
    rw [show fitF (rs.map (nrm .f32)) = ([], false) by simp [fitF, hno]]
    exact ⟨_, [], rfl, rfl, World.ownsRow_nil _ _ _ _, hb⟩
  by_cases hn1 : (rs.length : Int) < 1
  · have hin : inB 1 rs.length 17 = false := inB_false.2 (by omega)
    refine Calls.mono ?_ (no (by rw [fitOk, List.length_map, hin]; rfl))
    clear no hc
    go_enter Try.func28, Try.ntmps28
    go_wp2_with (first | (go_at_call 48; refine (in_spec _ _ _ _).mono ?_; rintro e w' ⟨rfl, rfl⟩) | (go_at_call 42; refine (finite_spec _ _ _ Hv.out hl).mono ?_; rintro e w' ⟨m, rfl, rfl⟩))
    go_ret2
    exact ⟨rfl, Below.refl _ _⟩
  by_cases hn2 : 17 < (rs.length : Int)
  · have hin : inB 1 rs.length 17 = false := inB_false.2 (by omega)
    refine Calls.mono ?_ (no (by rw [fitOk, List.length_map, hin]; rfl))
    clear no hc
    go_enter Try.func28, Try.ntmps28
    go_wp2_with (first | (go_at_call 48; refine (in_spec _ _ _ _).mono ?_; rintro e w' ⟨rfl, rfl⟩) | (go_at_call 42; refine (finite_spec _ _ _ Hv.out hl).mono ?_; rintro e w' ⟨m, rfl, rfl⟩))
    go_ret2
    exact ⟨rfl, Below.refl _ _⟩
  have hin : inB 1 rs.length 17 = true := inB_true.2 (by omega)
  cases ha : allFin rs
  · refine Calls.mono ?_ (no (by rw [fitOk, ← allFin_map, ha]; simp))
    clear no hc
    go_enter Try.func28, Try.ntmps28
    go_wp2_with (first | (go_at_call 48; refine (in_spec _ _ _ _).mono ?_; rintro e w' ⟨rfl, rfl⟩) | (go_at_call 42; refine (finite_spec _ _ _ Hv.out hl).mono ?_; rintro e w' ⟨m, rfl, rfl⟩))
    go_ret2
    exact ⟨rfl, below_drewN (Below.refl _ _) _⟩
  obtain ⟨b, off, rfl, hcell⟩ := hc.resolve_left (fun e => by rw [e] at hn1; simp at hn1)
  have Hc := Lib.hid hcell
  have Hfo := Lib.hid (show fitOk (rs.map (nrm .f32)) = true by rw [fitOk, List.length_map, hin, ← allFin_map, ha]; rfl)
  clear no hc hcell
  go_enter Try.func28, Try.ntmps28
  go_wp2_with (first | (go_at_call 48; refine (in_spec _ _ _ _).mono ?_; rintro e w' ⟨rfl, rfl⟩) | (go_at_call 42; refine (finite_spec _ _ _ Hv.out hl).mono ?_; rintro e w' ⟨m, rfl, rfl⟩))
  go_loopw [5, 6] (fun u i wr => FitRel (rs.map (nrm .f32)) w u i wr) (fun _ i _ => rs.length - (intOf i).toNat)
  case atStart => exact ⟨0, [], Nat.zero_le _, rfl, by simp, by simp [fitL], World.ownsRow_lit _ _ _ (by simp) (by decide) rfl, ((below_drewN (Below.refl _ _) _).alloc (Nat.le_refl _) _)⟩
  case round =>
    obtain ⟨j, ss, hj, rfl, hss, hval, hown, hbel⟩ := hrel
    rw [List.length_map] at hj
    obtain ⟨wo, rfl⟩ : ∃ wo : World, wo = wr := ⟨_, rfl⟩
    have hw1 : w.heap.size ≤ wo.heap.size := hbel.size
    have Hval := Lib.hid hval
    have Hss := Lib.hid hss
    have Hbel := Lib.hid hbel
    have Ho := Lib.hid hown
    clear hval hss hbel
    by_cases hlt : j < rs.length
    · have j1 : (0 : Int) ≤ (j : Int) := by omega
      have j2 : (j : Int) ≤ 16 := by omega
      have cells : ∀ (k : Nat) (h : k < rs.length), wo.cell? ⟨b, off + k, none⟩ = some (.float .f32 rs[k]) := fun k h => by
        rw [Hbel.out.cell (World.block_lt_of_cell? w _ (Hc.out k h))]; exact Hc.out k h
      have Hcell := Lib.hid cells
      clear cells
      cases he : ((j : Int) == 0)
      all_goals
        go_wp2_with fail
        go_loopw [7, 8] (fun u i wr => FitIn (rs.map (nrm .f32)) j wo u i wr) (fun _ i _ => rs.length - (intOf i).toNat)
        case atStart => exact ⟨0, 0, 0, Nat.zero_le _, rfl, rfl, rfl, rfl⟩
        case round =>
          obtain ⟨k, ur, m, hk, rfl, rfl, hu, rfl⟩ := hrel
          rw [List.length_map] at hk
          by_cases hlt2 : k < rs.length
          · have c1 := Hcell.out k hlt2
            have hy : nrm .f32 rs[k] = (rs.map (nrm .f32)).getD k 0 := by simp [List.getD, hlt2]
            have hwr := wrap_fit j k (by omega) (by omega)
            have Hok := Lib.hid (show okX (turnF (floatOfInt .f32 ((j * (2 * k + 1) : Nat) : Int)) (floatOfInt .f32 (4 * (rs.length : Int)))) = true by rw [argX_fit]; exact arg_fit (by omega) hlt hlt2)
            have Hx := Lib.hid (argX_fit rs.length j k)
            have Hu := Lib.hid hu
            have Hy := Lib.hid hy
            clear hu hy
            generalize rs[k] = y at c1 Hy
            generalize ((j * (2 * k + 1) : Nat) : Int) = D at *
            have k1 : (0 : Int) ≤ (k : Int) := by omega
            have k2 : (k : Int) ≤ 16 := by omega
            have k3 : (k : Int) < (rs.length : Int) := by omega
            have w1 : IntKind.i64.wrap (2 * (k : Int)) = 2 * (k : Int) := IntWalk.i64_in _ (by omega)
            have w2 : IntKind.i64.wrap (2 * (k : Int) + 1) = 2 * (k : Int) + 1 := IntWalk.i64_in _ (by omega)
            have w3 : IntKind.i64.wrap (4 * (rs.length : Int)) = 4 * (rs.length : Int) := IntWalk.i64_in _ (by omega)
            go_wp2_with fail
            refine wp_region_v 18 (fun f _ u => ∃ r, u = .float .f32 r ∧ nrm .f32 r = sineN (turnF (floatOfInt .f32 D) (floatOfInt .f32 (4 * (rs.length : Int))))) (by kernel_rfl) (by kernel_rfl) ?_
            simp only [List.take_succ_cons, List.take_zero, List.drop_succ_cons, List.drop_zero]
            repeat (first | (apply wpV_det; (exact rfl); (intro nq; go_simp; rfl); (intro K hK; go_simp; refine hK.use ?_; clear hK K)) | ((with_reducible refine wpV_fop _ _ _ _ _ rfl rfl .f32 _ _ rfl rfl ?_ ?_); (exact rfl); intro r hr; (intro K hK; go_simp; refine hK.use ?_; clear hK K)) | (apply wpV_call; (exact rfl); (intro nq; go_simp; exact ⟨rfl, rfl⟩); (intro nq; refine (cosine_spec _ _ _ Hok.out).mono ?_; rintro e w' ⟨r, mm, rfl, hr, rfl⟩; exact ⟨_, rfl, ⟨_, rfl, hr⟩, nq + mm, by simp [Nat.add_assoc]⟩); (rintro u ⟨rs1, rfl, hs⟩); (intro K hK; go_simp; refine hK.use ?_; clear hK K)))
            refine wpV_nil (fun nq => ?_)
            refine wpList_nil ?_
            go_wp2_with fail
            go_roundw
            case rel =>
              refine ⟨k + 1, _, _, by rw [List.length_map]; omega, by go_num, rfl, ?_, by first | rfl | (simp only [World.drewN_drewN]; rfl)⟩
              simp only [fitSum, ← Hu.out, ← Hy.out, List.length_map, ← Hx.out, *]
            case measure => simp [intOf]; omega
          · obtain rfl : k = rs.length := by omega
            have Hu := Lib.hid hu
            clear hu
            go_wp2_with (first | (with_reducible refine wpList_fop rfl _ _ _ _ _ rfl rfl .f32 _ _ rfl rfl ?_; intro r m hr) | (at_builtin; (refine wpList_push hown i0 _ 4 hi hz0 hz1 hz2 rfl rfl _ _ 31 rfl Try.underlying31 _ _ rfl rfl rfl rfl (by unfold maxLen; omega) (by omega) (by omega) ?_); intro g1 cap1 w2 hown2 hat2 hlt2 hgrow2))
            go_roundw
            case rel =>
              refine ⟨j + 1, ss ++ [_], by rw [List.length_map]; omega, by go_num, by simp [Hss.out], ?_, by simpa using hown2, ?_⟩
              · have hz := he
                have hj0 : fitBy rs.length j = (if ((j : Int) == 0) = true then fop .quo .f32 (nrm .f32 1065353216) (nrm .f32 (floatOfInt .f32 (rs.length : Int))) else fop .quo .f32 (nrm .f32 1073741824) (nrm .f32 (floatOfInt .f32 (rs.length : Int)))) := by
                  unfold fitBy
                  by_cases h0 : j = 0 <;> simp [h0]
                rw [fitL_succ, List.map_append, Hval.out, List.map_cons, List.map_nil, fitAt, List.length_map, hj0, hz, ← Hu.out]
                simp only [*, if_true, Bool.false_eq_true, if_false]
              · exact (Hbel.out).trans ⟨hgrow2.os, hgrow2.tape, hgrow2.output, hgrow2.size, fun q hq => hgrow2.block q (by simp; omega) (fun e => by
                  have := (Ho.out.lt q e.symm).1
                  omega)⟩
            case measure => simp [intOf]; omega
    · obtain rfl : j = rs.length := by omega
      have hval := Hval.out
      have hrd : RdF wo _ ss := ownsRow_rd (by rw [Hss.out]; exact hown)
      have Hrd := Lib.hid hrd
      have hlen : ss.length ≤ 1099511627776 := by rw [Hss.out]; exact hl
      have Hlen := Lib.hid hlen
      clear hval hrd hlen
      cases hf : allFin ss
      · have H := Lib.hid (show fitF (rs.map (nrm .f32)) = ([], false) by
          rw [fitF, if_neg]; rw [List.length_map, ← Hval.out, ← allFin_map, hf]; simp)
        go_wp2_with (go_at_call 42; refine (finite_spec _ _ _ (by exact Hrd.out) Hlen.out).mono ?_; rintro e w' ⟨m, rfl, rfl⟩)
        go_ret2
        rw [H.out]
        exact ⟨_, [], rfl, rfl, World.ownsRow_nil _ _ _ _, below_drewN Hbel.out _⟩
      · have H := Lib.hid (show fitF (rs.map (nrm .f32)) = (fitL (rs.map (nrm .f32)) rs.length, true) by
          rw [fitF, if_pos]; · rw [List.length_map]
          rw [List.length_map, ← Hval.out, ← allFin_map, hf]; exact ⟨Hfo.out, rfl⟩)
        go_wp2_with (go_at_call 42; refine (finite_spec _ _ _ (by exact Hrd.out) Hlen.out).mono ?_; rintro e w' ⟨m, rfl, rfl⟩)
        go_ret2
        rw [H.out]
        exact ⟨_, ss, rfl, Hval.out, by rw [Hss.out]; exact hown, below_drewN Hbel.out _⟩

end Go.Proofs.Ytcbaanidbkjmcaa
