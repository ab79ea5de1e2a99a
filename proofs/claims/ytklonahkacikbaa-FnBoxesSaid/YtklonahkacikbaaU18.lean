/- The counts in the four boxes of a box, of the reference. Conditions: nothing is too great and no value is 0 around the four boxes. -/
import Derived.Test.YtklonahkacikbaaU17
namespace Go.Proofs.Ytklonahkacikbaa
open Go Go.RowKit
set_option linter.unusedSimpArgs false
set_option linter.unusedVariables false

theorem cntR_inB (d : Int) (s : Nat) : inB 0 (cntI s) d = (cntR d s).2 := by
  unfold inB cntR
  split
  · rename_i h; simp [h]
  · rename_i h; simp only [decide_eq_false_iff_not]; exact h
set_option maxRecDepth 100000 in
set_option maxHeartbeats 1000000 in
theorem boxed_spec (p : Nat) (v : Value) (rs : List C2) (lo hi : C2) (st : Nat) (w : World) (hp : w.cell? ⟨p, 0, none⟩ = some v) (hv : RdV w v (cx rs)) (h1 : 1 ≤ rs.length) (h2 : rs.length ≤ 17) (hr : rootedF (rs.map nc) = true) (hb : boxF (nc lo) (nc hi) = true) (s4 : 4 ≤ st) (s60 : st ≤ 60) :
    Calls Try.prog 34 #[.pointer (some ⟨p, 0, none⟩), .complex .f32 lo.1 lo.2, .complex .f32 hi.1 hi.2, .int .i64 (st : Int)] w (RetB true w) := by
  have I1 := Lib.hid (show inB 4 (st : Int) 64 = true by simp [inB]; omega)
  have RS := Lib.hid (rooted_spec p v rs w hp hv h1 h2)
  rw [hr] at RS
  have BS := Lib.hid (fun w1 => box_spec lo hi hb w1)
  clear hp hv h1 h2 hr hb
  go_enter Try.func34, Try.ntmps34
  go_wp2_with (first
    | (go_at_call 59; ((with_reducible refine (RS.out).mono ?_); rintro e w1 ⟨m1, rfl, rfl⟩))
    | (go_at_call 60; ((with_reducible refine (BS.out _).mono ?_); rintro e w2 ⟨m2, rfl, rfl⟩))
    | (go_at_call 37; ((with_reducible refine (in_spec _ _ _ _).mono ?_); rintro e w3 ⟨rfl, rfl⟩; rw [I1.out])))
  go_ret
  exact ⟨_, rfl, by first | rfl | (simp only [World.drewN_drewN]; rfl)⟩
set_option maxRecDepth 100000 in
set_option maxHeartbeats 8000000 in
theorem four05_spec (p : Nat) (v : Value) (rs : List C2) (n : Nat) (lo hi : C2) (st : Nat) (w : World) (hp : w.cell? ⟨p, 0, none⟩ = some v) (hv : RdV w v (cx rs)) (hn : rs.length = n + 1) (h2 : n ≤ 16) (H : FourOk (rs.map nc) lo hi st) :
    Calls Try.prog 35 #[.pointer (some ⟨p, 0, none⟩), .complex .f32 lo.1 lo.2, .complex .f32 hi.1 hi.2, .int .i64 (st : Int)] w (RetLZ (fourR n (TQ (rs.map nc) lo hi st)) w) := by
  have lp : p < w.heap.size := World.block_lt_of_cell? _ _ hp
  have QS := Lib.hid (quarters_spec lo hi H.ln H.hn H.mid w)
  have BX := Lib.hid (fun i (hi4 : i < 4) => show boxF (nc (qLo lo hi i)) (nc (qHi lo hi i)) = true by rw [(H.qn hi4).1, (H.qn hi4).2]; exact (H.q i hi4).box)
  have RE := Lib.hid (fun i (hi4 : i < 4) => show turnS (rs.map nc) (nc (qLo lo hi i)) (nc (qHi lo hi i)) st (4 * st) = TQ (rs.map nc) lo hi st i from by rw [(H.qn hi4).1, (H.qn hi4).2]; rfl)
  have RO := Lib.hid (fun i (hi4 : i < 4) w2 (hb : Below w.heap.size w w2) => show Calls Try.prog 61 #[.pointer (some ⟨p, 0, none⟩), .complex .f32 (qLo lo hi i).1 (qLo lo hi i).2, .complex .f32 (qHi lo hi i).1 (qHi lo hi i).2, .int .i64 (st : Int)] w2 (RetZB (cntI (TQ (rs.map nc) lo hi st i), inB 0 (cntI (TQ (rs.map nc) lo hi st i)) n) w2) from by
    have := inbox_spec p v rs n (qLo lo hi i) (qHi lo hi i) st w2 ((hb.cell (p := ⟨p, 0, none⟩) lp).trans hp) (hv.below hb) hn h2 (by rw [(H.qn hi4).1, (H.qn hi4).2]; exact H.q i hi4) (H.qn hi4).1
    rw [RE.out i hi4] at this
    exact this)
  generalize TQ (rs.map nc) lo hi st = T at *
  clear hv h2 H RE hp
  go_enter Try.func35, Try.ntmps35
  go_wp2_with fail
  (go_at_call 38; ((with_reducible refine (QS.out).mono ?_); rintro e W3 ⟨g, h, rfl, hg1, hg2, hh1, hh2, hb3, hcl⟩))
  have HC := Lib.hid hcl
  have B3 := Lib.hid hb3
  have hs3 := hb3.size
  clear hcl hb3 QS
  go_wp2_with fail
  have b2 : Below W3.heap.size W3 (W3.alloc (.cells #[] 2)) := (Below.refl _ _).alloc (Nat.le_refl _) _
  have hr0 : RowV 2 (W3.alloc (.cells #[] 2)) W3.heap.size (.slice (some ⟨W3.heap.size, 0, none⟩) 0 0) (gi []) := row_nilS rfl (Nat.le_refl _) _
  have z2 : (W3.alloc (.cells #[] 2)).heap.size = W3.heap.size + 1 := by simp
  generalize (W3.alloc (.cells #[] 2)) = W2 at *
  have HC2 := Lib.hid (fun j (hj : j < 4) => And.intro ((b2.cell (p := ⟨g, j, none⟩) hg2).trans (HC.out j hj).1) ((b2.cell (p := ⟨h, j, none⟩) hh2).trans (HC.out j hj).2))
  have B2 := Lib.hid (B3.out.trans (b2.mono (show w.heap.size ≤ W3.heap.size by omega)))
  go_loopw [12, 25] (fun ov iv wr => ∃ (i : Nat), i ≤ 4 ∧ iv = .int .i64 (i : Int) ∧ RowV 2 wr W3.heap.size ov (gi ((List.range i).map (fun i => cntI (T i)))) ∧ (∀ j, j < i → (cntR n (T j)).2 = true) ∧ Below w.heap.size w wr ∧ W2.heap.size ≤ wr.heap.size ∧ (∀ i, i < 4 → wr.cell? ⟨g, i, none⟩ = some (.complex .f32 (qLo lo hi i).1 (qLo lo hi i).2) ∧ wr.cell? ⟨h, i, none⟩ = some (.complex .f32 (qHi lo hi i).1 (qHi lo hi i).2)) ∧ (∀ k, ov.ownBlock = some k → k ≠ g ∧ k ≠ h ∧ W3.heap.size ≤ k)) (fun _ iv _ => 4 - (intOf iv).toNat)
  case atStart => exact ⟨0, by omega, rfl, hr0, fun j hj => absurd hj (by omega), B2.out, Nat.le_refl _, HC2.out, fun k hk => by simp [Value.ownBlock] at hk; omega⟩
  case round =>
    obtain ⟨i, hi4, rfl, hrow, hall, hbel, hsz, hcl, hne⟩ := hrel
    by_cases hlt : i < 4
    · have j1 : (i : Int) < 4 := by omega
      have j0 : (0 : Int) ≤ (i : Int) := by omega
      have cA := (hcl i hlt).1
      have cB := (hcl i hlt).2
      have Hcl := Lib.hid hcl
      have Hne := Lib.hid hne
      have lgr : g < wr.heap.size := by omega
      have lhr : h < wr.heap.size := by omega
      have Hrow := Lib.hid hrow
      have Hall := Lib.hid hall
      have Hbel := Lib.hid hbel
      have HBXi := Lib.hid (BX.out i hlt)
      have ROi := Lib.hid (fun w2 (hb : Below wr.heap.size wr w2) => RO.out i hlt w2 (Hbel.out.trans (hb.mono (show w.heap.size ≤ wr.heap.size by omega))))
      clear hrow hall hbel hcl hne RO BX
      go_upto_region 6 with fail
      refine wp_region_held_drew (S := fun w' => w'.cell? ⟨g, i, none⟩ = some (.complex .f32 (qLo lo hi i).1 (qLo lo hi i).2) ∧ w'.cell? ⟨h, i, none⟩ = some (.complex .f32 (qHi lo hi i).1 (qHi lo hi i).2)) (by kernel_rfl) (by exact ⟨cA, cB⟩) (fun hHeld => ?_)
      refine wpAnyH_take (i := 0) (v := ?_) rfl (by kernel_rfl) (by kernel_rfl) (by kernel_rfl) (fun _ _ _ h => h) (Or.inl ⟨by rfl, ?_⟩) (by assumption) ?_
      rotate_left 1
      (intro w hSw; (try dsimp only at hSw); go_simp; (try with_reducible rfl))
      (try simp only [List.getElem_toArray, List.getElem_cons_succ, List.getElem_cons_zero, Act.put, List.setIfInBounds_toArray, List.set_cons_zero, List.set_cons_succ])
      refine wpAnyH_take (i := 1) (v := ?_) rfl (by kernel_rfl) (by kernel_rfl) (by kernel_rfl) (fun _ _ _ h => h) (Or.inl ⟨by rfl, ?_⟩) (by assumption) ?_
      rotate_left 1
      (intro w hSw; (try dsimp only at hSw); go_simp; (try with_reducible rfl))
      (try simp only [List.getElem_toArray, List.getElem_cons_succ, List.getElem_cons_zero, Act.put, List.setIfInBounds_toArray, List.set_cons_zero, List.set_cons_succ])
      refine wpAnyH_take (i := 2) (v := ?_) rfl (by kernel_rfl) (by kernel_rfl) (by kernel_rfl) (fun _ _ _ h => h) (Or.inl ⟨by rfl, ?_⟩) (by assumption) ?_
      rotate_left 1
      (intro w hSw; (try dsimp only at hSw); go_simp; (try with_reducible rfl))
      (try simp only [List.getElem_toArray, List.getElem_cons_succ, List.getElem_cons_zero, Act.put, List.setIfInBounds_toArray, List.set_cons_zero, List.set_cons_succ])
      refine wpAnyH_take (i := 3) (v := ?_) rfl (by kernel_rfl) (by kernel_rfl) (by kernel_rfl) (fun _ _ _ h => h) (Or.inl ⟨by rfl, ?_⟩) (by assumption) ?_
      rotate_left 1
      (intro w hSw; (try dsimp only at hSw); go_simp; (try with_reducible rfl))
      (try simp only [List.getElem_toArray, List.getElem_cons_succ, List.getElem_cons_zero, Act.put, List.setIfInBounds_toArray, List.set_cons_zero, List.set_cons_succ])
      refine wpAnyH_take (i := 4) (v := ?_) rfl (by kernel_rfl) (by kernel_rfl) (by kernel_rfl) (fun _ _ _ h => h) (Or.inl ⟨by rfl, ?_⟩) (by assumption) ?_
      rotate_left 1
      (intro w hSw; (try dsimp only at hSw); go_simp; (try with_reducible rfl))
      (try simp only [List.getElem_toArray, List.getElem_cons_succ, List.getElem_cons_zero, Act.put, List.setIfInBounds_toArray, List.set_cons_zero, List.set_cons_succ])
      refine wpAnyH_take (i := 5) (v := ?_) rfl (by kernel_rfl) (by kernel_rfl) (by kernel_rfl) (fun _ _ _ h => h) (Or.inl ⟨by rfl, ?_⟩) (by assumption) ?_
      rotate_left 1
      (intro w hSw; (try dsimp only at hSw); go_simp; (try with_reducible rfl))
      (try simp only [List.getElem_toArray, List.getElem_cons_succ, List.getElem_cons_zero, Act.put, List.setIfInBounds_toArray, List.set_cons_zero, List.set_cons_succ])
      refine wpAnyH_take (i := 6) (v := ?_) rfl (by kernel_rfl) (by kernel_rfl) (by kernel_rfl) (fun _ _ _ h => h) (Or.inl ⟨by rfl, ?_⟩) (by assumption) ?_
      rotate_left 1
      (intro w hSw; (try dsimp only at hSw); go_simp; (try with_reducible rfl))
      (try simp only [List.getElem_toArray, List.getElem_cons_succ, List.getElem_cons_zero, Act.put, List.setIfInBounds_toArray, List.set_cons_zero, List.set_cons_succ])
      refine wpAnyH_take (i := 7) (v := ?_) rfl (by kernel_rfl) (by kernel_rfl) (by kernel_rfl) (fun _ _ _ h => h) (Or.inl ⟨by rfl, ?_⟩) (by assumption) ?_
      rotate_left 1
      (intro w hSw; (try dsimp only at hSw); go_simp; (try with_reducible rfl))
      (try simp only [List.getElem_toArray, List.getElem_cons_succ, List.getElem_cons_zero, Act.put, List.setIfInBounds_toArray, List.set_cons_zero, List.set_cons_succ])
      refine wpAnyH_ready (rs := [8]) (by kernel_rfl) (by simp) ?_
      refine AllReadyH.cons rfl (fun K8 hK8 => ?_) ?_
      · go_simp
        (go_at_call 60; ((with_reducible refine (box_spec (qLo lo hi i) (qHi lo hi i) HBXi.out _).mono ?_); rintro e w5 ⟨m5, rfl, rfl⟩))
        (try go_wp2_with fail)
        refine hK8.out _ _ ?_ (fun hHeld8 => ?_)
        · first | assumption | exact ⟨cA, cB⟩
        clear hK8 K8
        (try simp only [List.getElem_toArray, List.getElem_cons_succ, List.getElem_cons_zero, Act.put, List.setIfInBounds_toArray, List.set_cons_zero, List.set_cons_succ])
        refine wpAnyH_take (i := 9) (v := ?_) rfl (by kernel_rfl) (by kernel_rfl) (by kernel_rfl) (fun _ _ _ h => h) (Or.inl ⟨by rfl, ?_⟩) (by assumption) ?_
        rotate_left 1
        (intro w hSw; (try dsimp only at hSw); go_simp; (try with_reducible rfl))
        (try simp only [List.getElem_toArray, List.getElem_cons_succ, List.getElem_cons_zero, Act.put, List.setIfInBounds_toArray, List.set_cons_zero, List.set_cons_succ])
        refine wpAnyH_done (by kernel_rfl) ?_ _
        have HWX := Lib.hid (show Below wr.heap.size wr (wr.drewN (1 + m5)) from below_drewN (Below.refl _ _) _)
        have cA5 : (wr.drewN (1 + m5)).cell? ⟨g, i, none⟩ = some (.complex .f32 (qLo lo hi i).1 (qLo lo hi i).2) := cA
        have cB5 : (wr.drewN (1 + m5)).cell? ⟨h, i, none⟩ = some (.complex .f32 (qHi lo hi i).1 (qHi lo hi i).2) := cB
        have hwz : (wr.drewN (1 + m5)).heap.size = wr.heap.size := rfl
        have ROx := Lib.hid (fun w2 (hb : Below (wr.drewN (1 + m5)).heap.size (wr.drewN (1 + m5)) w2) => ROi.out w2 (HWX.out.trans hb))
        clear cA cB ROi
        generalize (wr.drewN (1 + m5)) = wx at *
        go_upto_region 8 with fail
        refine wp_region_held_drew (S := fun w' => w'.cell? ⟨g, i, none⟩ = some (.complex .f32 (qLo lo hi i).1 (qLo lo hi i).2) ∧ w'.cell? ⟨h, i, none⟩ = some (.complex .f32 (qHi lo hi i).1 (qHi lo hi i).2)) (by kernel_rfl) (by exact ⟨cA5, cB5⟩) (fun hHeld => ?_)
        refine wpAnyH_take (i := 0) (v := ?_) rfl (by kernel_rfl) (by kernel_rfl) (by kernel_rfl) (fun _ _ _ h => h) (Or.inl ⟨by rfl, ?_⟩) (by assumption) ?_
        rotate_left 1
        (intro w hSw; (try dsimp only at hSw); go_simp; (try with_reducible rfl))
        (try simp only [List.getElem_toArray, List.getElem_cons_succ, List.getElem_cons_zero, Act.put, List.setIfInBounds_toArray, List.set_cons_zero, List.set_cons_succ])
        refine wpAnyH_take (i := 1) (v := ?_) rfl (by kernel_rfl) (by kernel_rfl) (by kernel_rfl) (fun _ _ _ h => h) (Or.inl ⟨by rfl, ?_⟩) (by assumption) ?_
        rotate_left 1
        (intro w hSw; (try dsimp only at hSw); go_simp; (try with_reducible rfl))
        (try simp only [List.getElem_toArray, List.getElem_cons_succ, List.getElem_cons_zero, Act.put, List.setIfInBounds_toArray, List.set_cons_zero, List.set_cons_succ])
        refine wpAnyH_take (i := 2) (v := ?_) rfl (by kernel_rfl) (by kernel_rfl) (by kernel_rfl) (fun _ _ _ h => h) (Or.inl ⟨by rfl, ?_⟩) (by assumption) ?_
        rotate_left 1
        (intro w hSw; (try dsimp only at hSw); go_simp; (try with_reducible rfl))
        (try simp only [List.getElem_toArray, List.getElem_cons_succ, List.getElem_cons_zero, Act.put, List.setIfInBounds_toArray, List.set_cons_zero, List.set_cons_succ])
        refine wpAnyH_take (i := 3) (v := ?_) rfl (by kernel_rfl) (by kernel_rfl) (by kernel_rfl) (fun _ _ _ h => h) (Or.inl ⟨by rfl, ?_⟩) (by assumption) ?_
        rotate_left 1
        (intro w hSw; (try dsimp only at hSw); go_simp; (try with_reducible rfl))
        (try simp only [List.getElem_toArray, List.getElem_cons_succ, List.getElem_cons_zero, Act.put, List.setIfInBounds_toArray, List.set_cons_zero, List.set_cons_succ])
        refine wpAnyH_take (i := 4) (v := ?_) rfl (by kernel_rfl) (by kernel_rfl) (by kernel_rfl) (fun _ _ _ h => h) (Or.inl ⟨by rfl, ?_⟩) (by assumption) ?_
        rotate_left 1
        (intro w hSw; (try dsimp only at hSw); go_simp; (try with_reducible rfl))
        (try simp only [List.getElem_toArray, List.getElem_cons_succ, List.getElem_cons_zero, Act.put, List.setIfInBounds_toArray, List.set_cons_zero, List.set_cons_succ])
        refine wpAnyH_take (i := 5) (v := ?_) rfl (by kernel_rfl) (by kernel_rfl) (by kernel_rfl) (fun _ _ _ h => h) (Or.inl ⟨by rfl, ?_⟩) (by assumption) ?_
        rotate_left 1
        (intro w hSw; (try dsimp only at hSw); go_simp; (try with_reducible rfl))
        (try simp only [List.getElem_toArray, List.getElem_cons_succ, List.getElem_cons_zero, Act.put, List.setIfInBounds_toArray, List.set_cons_zero, List.set_cons_succ])
        refine wpAnyH_take (i := 6) (v := ?_) rfl (by kernel_rfl) (by kernel_rfl) (by kernel_rfl) (fun _ _ _ h => h) (Or.inl ⟨by rfl, ?_⟩) (by assumption) ?_
        rotate_left 1
        (intro w hSw; (try dsimp only at hSw); go_simp; (try with_reducible rfl))
        (try simp only [List.getElem_toArray, List.getElem_cons_succ, List.getElem_cons_zero, Act.put, List.setIfInBounds_toArray, List.set_cons_zero, List.set_cons_succ])
        refine wpAnyH_take (i := 7) (v := ?_) rfl (by kernel_rfl) (by kernel_rfl) (by kernel_rfl) (fun _ _ _ h => h) (Or.inl ⟨by rfl, ?_⟩) (by assumption) ?_
        rotate_left 1
        (intro w hSw; (try dsimp only at hSw); go_simp; (try with_reducible rfl))
        (try simp only [List.getElem_toArray, List.getElem_cons_succ, List.getElem_cons_zero, Act.put, List.setIfInBounds_toArray, List.set_cons_zero, List.set_cons_succ])
        refine wpAnyH_take (i := 8) (v := ?_) rfl (by kernel_rfl) (by kernel_rfl) (by kernel_rfl) (fun _ _ _ h => h) (Or.inl ⟨by rfl, ?_⟩) (by assumption) ?_
        rotate_left 1
        (intro w hSw; (try dsimp only at hSw); go_simp; (try with_reducible rfl))
        (try simp only [List.getElem_toArray, List.getElem_cons_succ, List.getElem_cons_zero, Act.put, List.setIfInBounds_toArray, List.set_cons_zero, List.set_cons_succ])
        refine wpAnyH_take (i := 9) (v := ?_) rfl (by kernel_rfl) (by kernel_rfl) (by kernel_rfl) (fun _ _ _ h => h) (Or.inl ⟨by rfl, ?_⟩) (by assumption) ?_
        rotate_left 1
        (intro w hSw; (try dsimp only at hSw); go_simp; (try with_reducible rfl))
        (try simp only [List.getElem_toArray, List.getElem_cons_succ, List.getElem_cons_zero, Act.put, List.setIfInBounds_toArray, List.set_cons_zero, List.set_cons_succ])
        refine wpAnyH_ready (rs := [10]) (by kernel_rfl) (by simp) ?_
        refine AllReadyH.cons rfl (fun K10 hK10 => ?_) ?_
        · go_simp
          (go_at_call 61; ((with_reducible refine (ROx.out _ (by first | exact Below.drew (Below.refl _ _) | exact below_drewN (Below.refl _ _) _ | exact Below.refl _ _)).mono ?_); rintro e w9 ⟨rfl, hb9⟩)); have hb9r : Below wx.heap.size wx w9 := Below.trans (by first | exact Below.drew (Below.refl _ _) | exact below_drewN (Below.refl _ _) _ | exact Below.refl _ _) hb9
          (try go_wp2_with fail)
          refine hK10.out _ _ ?_ (fun hHeld10 => ?_)
          · first | assumption | exact ⟨cA5, cB5⟩ | exact ⟨(hb9r.cell (p := ⟨g, i, none⟩) (by simp only; omega)).trans cA5, (hb9r.cell (p := ⟨h, i, none⟩) (by simp only; omega)).trans cB5⟩
          clear hK10 K10
          (try simp only [List.getElem_toArray, List.getElem_cons_succ, List.getElem_cons_zero, Act.put, List.setIfInBounds_toArray, List.set_cons_zero, List.set_cons_succ])
          refine wpAnyH_take (i := 11) (v := ?_) rfl (by kernel_rfl) (by kernel_rfl) (by kernel_rfl) (fun _ _ _ h => h) (Or.inl ⟨by rfl, ?_⟩) (by assumption) ?_
          rotate_left 1
          (intro w hSw; (try dsimp only at hSw); go_simp; (try with_reducible rfl))
          (try simp only [List.getElem_toArray, List.getElem_cons_succ, List.getElem_cons_zero, Act.put, List.setIfInBounds_toArray, List.set_cons_zero, List.set_cons_succ])
          refine wpAnyH_take (i := 12) (v := ?_) rfl (by kernel_rfl) (by kernel_rfl) (by kernel_rfl) (fun _ _ _ h => h) (Or.inl ⟨by rfl, ?_⟩) (by assumption) ?_
          rotate_left 1
          (intro w hSw; (try dsimp only at hSw); go_simp; (try with_reducible rfl))
          (try simp only [List.getElem_toArray, List.getElem_cons_succ, List.getElem_cons_zero, Act.put, List.setIfInBounds_toArray, List.set_cons_zero, List.set_cons_succ])
          refine wpAnyH_take (i := 13) (v := ?_) rfl (by kernel_rfl) (by kernel_rfl) (by kernel_rfl) (fun _ _ _ h => h) (Or.inl ⟨by rfl, ?_⟩) (by assumption) ?_
          rotate_left 1
          (intro w hSw; (try dsimp only at hSw); go_simp; (try with_reducible rfl))
          (try simp only [List.getElem_toArray, List.getElem_cons_succ, List.getElem_cons_zero, Act.put, List.setIfInBounds_toArray, List.set_cons_zero, List.set_cons_succ])
          refine wpAnyH_take (i := 14) (v := ?_) rfl (by kernel_rfl) (by kernel_rfl) (by kernel_rfl) (fun _ _ _ h => h) (Or.inl ⟨by rfl, ?_⟩) (by assumption) ?_
          rotate_left 1
          (intro w hSw; (try dsimp only at hSw); go_simp; (try with_reducible rfl))
          (try simp only [List.getElem_toArray, List.getElem_cons_succ, List.getElem_cons_zero, Act.put, List.setIfInBounds_toArray, List.set_cons_zero, List.set_cons_succ])
          refine wpAnyH_take (i := 15) (v := ?_) rfl (by kernel_rfl) (by kernel_rfl) (by kernel_rfl) (fun _ _ _ h => h) (Or.inl ⟨by rfl, ?_⟩) (by assumption) ?_
          rotate_left 1
          (intro w hSw; (try dsimp only at hSw); go_simp; (try with_reducible rfl))
          (try simp only [List.getElem_toArray, List.getElem_cons_succ, List.getElem_cons_zero, Act.put, List.setIfInBounds_toArray, List.set_cons_zero, List.set_cons_succ])
          refine wpAnyH_done (by kernel_rfl) ?_ _
          have hs9 := hb9r.size
          have hb9w := HWX.out.trans (hb9r.mono (by omega))
          have hrow := Hrow.out.below hb9w
          have HB9 := Lib.hid (Hbel.out.trans (hb9w.mono (show w.heap.size ≤ wr.heap.size by omega)))
          have HC9 := Lib.hid (fun j (hj : j < 4) => And.intro ((hb9w.cell (p := ⟨g, j, none⟩) lgr).trans (Hcl.out j hj).1) ((hb9w.cell (p := ⟨h, j, none⟩) lhr).trans (Hcl.out j hj).2))
          have lg9 : g < w9.heap.size := by omega
          have lh9 : h < w9.heap.size := by omega
          have Hl := Lib.hid (show (gi ((List.range i).map (fun i => cntI (T i)))).length ≤ 1099511627776 by simp; omega)
          clear hb9 hb9r hb9w cA5 cB5 ROx Hrow Hbel Hcl HWX
          rw [cntR_inB]
          cases hok : (cntR n (T i)).2
          · have FB := Lib.hid (fourR_bad hlt hok)
            have HBB := Lib.hid HB9.out
            go_wp2_with fail
            go_ret2
            rw [FB.out]
            exact ⟨_, rfl, rd_nil _, HBB.out⟩
          · have Hok := Lib.hid hok
            clear hok
            go_wp2_with (at_builtin; go_must (refine wpList_pushV (.int .i64 0) 8 hrow infoI rfl rfl (by decide) rfl _ _ rfl Try.underlying39 Hl.out (by omega) rfl rfl rfl rfl rfl rfl ?_); intro v1 w1 hr1 hb1 hg1 ho1)
            go_roundw
            case rel => exact ⟨i + 1, by omega, by go_num, by rw [← grid_succ (fun i => cntI (T i))]; exact hr1, fun j hj => by
              by_cases hji : j < i
              · exact Hall.out j hji
              · obtain rfl : j = i := by omega
                exact Hok.out, HB9.out.trans (hb1.mono (by omega)), by have := hb1.size; omega, fun j hj => And.intro ((World.cell?_of_block (hg1.block g lg9 (fun h => (Hne.out g h.symm).1 rfl))).trans (HC9.out j hj).1) ((World.cell?_of_block (hg1.block h lh9 (fun h' => (Hne.out h h'.symm).2.1 rfl))).trans (HC9.out j hj).2), fun k hk => by
                rcases ho1 with h' | ⟨g', h', hg'⟩
                · exact Hne.out k (h' ▸ hk)
                · rw [h'] at hk; cases hk; exact ⟨by omega, by omega, by omega⟩⟩
            case measure => simp [intOf]; omega
        exact AllReadyH.nil
      exact AllReadyH.nil
    · obtain rfl : i = 4 := by omega
      have FG := Lib.hid (fourR_good hall)
      have HBB := Lib.hid hbel
      have HRD := Lib.hid hrow.rd
      clear hrow hbel hall hcl hne
      go_wp2_with fail
      go_ret2
      rw [FG.out]
      exact ⟨_, rfl, HRD.out, HBB.out⟩
set_option maxRecDepth 100000 in
set_option maxHeartbeats 2000000 in
theorem four_spec (v : Value) (rs : List C2) (n : Nat) (lo hi : C2) (st : Nat) (w : World) (hv : RdV w v (cx rs)) (hn : rs.length = n + 1) (h1 : 1 ≤ n) (h2 : n ≤ 16) (H : FourOk (rs.map nc) lo hi st) :
    Calls Try.prog 11 #[.agg #[v], .complex .f32 lo.1 lo.2, .complex .f32 hi.1 hi.2, .int .i64 (st : Int)] w (RetLZ (fourR n (TQ (rs.map nc) lo hi st)) w) := by
  obtain ⟨ao, cap, rfl, _⟩ := hv.shape
  rw [cx_length, hn] at hv ⊢
  have xp : (w.alloc (.cells #[.slice ao (n + 1) cap] 28)).cell? ⟨w.heap.size, 0, none⟩ = some (.slice ao (n + 1) cap) := (World.cell?_alloc_new w #[.slice ao (n + 1) cap] 28 0 : _)
  have hv1 := hv.alloc (.cells #[.slice ao (n + 1) cap] 28)
  have BS := Lib.hid (boxed_spec w.heap.size (.slice ao (n + 1) cap) rs lo hi st _ xp hv1 (by omega) (by omega) H.root (by rw [H.ln, H.hn]; exact H.box) H.s4 H.s60)
  have B0 := Lib.hid (show Below w.heap.size w (w.alloc (.cells #[.slice ao (n + 1) cap] 28)) from (Below.refl _ _).alloc (Nat.le_refl _) _)
  have FS := Lib.hid (fun m => four05_spec w.heap.size (.slice ao (n + 1) cap) rs n lo hi st ((w.alloc (.cells #[.slice ao (n + 1) cap] 28)).drewN m) xp (hv1.below (below_drewN (Below.refl _ _) _)) hn h2 H)
  have z0 : (w.alloc (.cells #[.slice ao (n + 1) cap] 28)).heap.size = w.heap.size + 1 := by simp
  clear hv h1 h2 H xp hv1
  go_enter Try.func11, Try.ntmps11
  go_wp2_with fail
  (go_at_call 34; ((with_reducible refine (BS.out).mono ?_); rintro e w1 ⟨m1, rfl, rfl⟩))
  go_wp2_with fail
  (go_at_call 35; ((with_reducible refine (FS.out _).mono ?_); rintro e w2 ⟨v2, rfl, hrd, hb2⟩))
  have HB2 := Lib.hid (B0.out.trans ((Below.trans (below_drewN (Below.refl _ _) m1) hb2).mono (show w.heap.size ≤ (w.alloc (.cells #[.slice ao (n + 1) cap] 28)).heap.size by omega)))
  have HRD := Lib.hid hrd
  clear hrd hb2 FS BS B0 z0
  generalize fourR (n : Int) (TQ (rs.map nc) lo hi st) = fr at *
  go_wp2_with fail
  go_ret2
  exact ⟨_, rfl, HRD.out, HB2.out⟩
end Go.Proofs.Ytklonahkacikbaa

/- Narrowing a box to one that has roots, of the program. Conditions: nothing is too great and no value is 0 around the boxes on the way. -/
namespace Go.Proofs.Ytklonahkacikbaa
open Go Go.RowKit
set_option linter.unusedSimpArgs false
set_option linter.unusedVariables false

/-- The first count above 0. -/
def posN (zs : List Int) : Nat → Int | 0 => -1 | i + 1 => if 0 ≤ posN zs i then posN zs i else if 0 < zs.getD i 0 then (i : Int) else -1
def posI (zs : List Int) : Int := posN zs zs.length
theorem posN_lt (zs : List Int) : ∀ i, posN zs i < (i : Int) + 1 ∧ -1 ≤ posN zs i ∧ (0 ≤ posN zs i → posN zs i < (i : Int))
  | 0 => ⟨by unfold posN; omega, by unfold posN; omega, by unfold posN; omega⟩
  | i + 1 => by
    obtain ⟨a, b, c⟩ := posN_lt zs i
    unfold posN
    split
    · exact ⟨by omega, by omega, fun h => by have := c h; omega⟩
    · split
      · exact ⟨by omega, by omega, fun _ => by omega⟩
      · exact ⟨by omega, by omega, fun h => by omega⟩
theorem posN_stay (zs : List Int) {i : Nat} (h : 0 ≤ posN zs i) : ∀ m, posN zs (i + m) = posN zs i
  | 0 => rfl
  | m + 1 => by
    have := posN_stay zs h m
    show (if 0 ≤ posN zs (i + m) then posN zs (i + m) else if 0 < zs.getD (i + m) 0 then ((i + m : Nat) : Int) else -1) = _
    rw [if_pos (by rw [this]; exact h), this]
theorem RdV.openI {w : World} {v : Value} {zs : List Int} (h : RdV w v (gi zs)) : (zs = [] ∧ ∃ ao cap, v = .slice ao 0 cap) ∨
    ∃ b off cap, v = .slice (some ⟨b, off, none⟩) zs.length cap ∧ b < w.heap.size ∧ (zs.length ≤ cap ∧ cap ≤ maxLen) ∧ ∀ i, i < zs.length → w.cell? ⟨b, off + i, none⟩ = some (.int .i64 (zs.getD i 0)) := by
  by_cases hn : zs = []
  · subst hn
    obtain ⟨ao, cap, rfl, _⟩ := h.shape
    exact .inl ⟨rfl, ao, cap, rfl⟩
  · obtain ⟨b, off, cap, rfl, hb, hc, hr⟩ := h.open (by simpa [gi] using hn)
    rw [gi_length] at hc hr ⊢
    exact .inr ⟨b, off, cap, rfl, hb, hc, fun i hi => by rw [hr i hi]; simp [gi, hi]⟩
set_option maxRecDepth 100000 in
theorem above_impl (z : Int) (w : World) : Calls Try.prog 40 #[.int .i64 z] w fun e w' => e = .returned (.bool (decide (0 < z))) ∧ w = w' := by
  go_enter Try.func40, Try.ntmps40
  go_wp2
  go_ret
  exact ⟨by simp, rfl⟩
set_option maxRecDepth 100000 in
set_option maxHeartbeats 1000000 in
theorem first_impl (v : Value) (zs : List Int) (w : World) (hv : RdV w v (gi zs)) (hl : zs.length ≤ 1000) :
    Calls Try.prog 39 #[v, .func (.func 40) #[] #[]] w fun e w' => e = .returned (.int .i64 (posI zs)) ∧ w = w' := by
  rcases hv.openI with ⟨rfl, ao, cap, rfl⟩ | ⟨b, off, cap, rfl, hb, hcp, hc⟩
  · clear hv
    go_enter Try.func39, Try.ntmps39
    go_wp2
    refine wp_loop_rounds 1 ?_
    rw [rounds_succ]
    go_wp2
    go_ret
    exact ⟨rfl, rfl⟩
  · have Hc := Lib.hid hc
    have HP := Lib.hid (show posI zs = posN zs zs.length from rfl)
    clear hc hv hcp
    go_enter Try.func39, Try.ntmps39
    go_wp2
    go_loopw [8] (fun i wr => ∃ k : Nat, k ≤ zs.length ∧ i = .int .i64 k ∧ wr = w ∧ posN zs k = -1) (fun i _ => zs.length - (intOf i).toNat)
    case atStart => exact ⟨0, Nat.zero_le _, rfl, rfl, rfl⟩
    case round =>
      obtain ⟨k, hk, rfl, rfl, hf⟩ := hrel
      have HF := Lib.hid hf
      clear hf
      by_cases hlt : k < zs.length
      · have c1 := Hc.out k hlt
        have HS := Lib.hid (show posN zs (k + 1) = if 0 ≤ posN zs k then posN zs k else if 0 < zs.getD k 0 then (k : Int) else -1 from rfl)
        generalize zs.getD k 0 = z at *
        by_cases hz : 0 < z
        · have HE := Lib.hid (show posI zs = (k : Int) by
            have h1 : posN zs (k + 1) = (k : Int) := by rw [HS.out, HF.out, if_neg (by omega), if_pos hz]
            have h2 := posN_stay zs (i := k + 1) (by rw [h1]; omega) (zs.length - (k + 1))
            rw [show k + 1 + (zs.length - (k + 1)) = zs.length by omega, h1] at h2
            exact h2)
          go_wp2_with (go_at_call 40; refine (above_impl _ _).mono ?_; rintro e w' ⟨rfl, rfl⟩)
          go_ret
          rw [HE.out]
          exact ⟨by first | rfl | trivial | simp, rfl⟩
        · have HE := Lib.hid (show posN zs (k + 1) = -1 by rw [HS.out, HF.out, if_neg (by omega), if_neg hz])
          go_wp2_with (go_at_call 40; refine (above_impl _ _).mono ?_; rintro e w' ⟨rfl, rfl⟩)
          go_roundw
          case rel => exact ⟨k + 1, by omega, by go_num, by first | trivial | rfl, HE.out⟩
          case measure => simp [intOf]; omega
      · obtain rfl : k = zs.length := by omega
        go_wp2
        go_ret
        rw [HP.out, HF.out]
        exact ⟨by first | rfl | trivial | simp, rfl⟩
/-- Narrowing, purely. -/
def stepB (F : List C2) (d : Int) (st : Nat) (b : C2 × C2) : Option (C2 × C2) :=
  if (fourR d (TQ F b.1 b.2 st)).2 = true ∧ 0 ≤ posI (fourR d (TQ F b.1 b.2 st)).1 then some (qLo b.1 b.2 (posI (fourR d (TQ F b.1 b.2 st)).1).toNat, qHi b.1 b.2 (posI (fourR d (TQ F b.1 b.2 st)).1).toNat) else none
def iterB (F : List C2) (d : Int) (st : Nat) (b : C2 × C2) : Nat → Option (C2 × C2) | 0 => some b | k + 1 => (iterB F d st b k).bind (stepB F d st)
theorem iterB_none {F : List C2} {d : Int} {st : Nat} {b : C2 × C2} {k : Nat} (h : iterB F d st b k = none) : ∀ m, iterB F d st b (k + m) = none
  | 0 => h
  | m + 1 => by show (iterB F d st b (k + m)).bind _ = none; rw [iterB_none h m]; rfl
def RetNB (o : Option (C2 × C2)) (w : World) (e : Ending) (w' : World) : Prop := ∃ a b c d, e = .returned (.tuple #[.complex .f32 a b, .complex .f32 c d, .bool o.isSome]) ∧ (∀ x, o = some x → (a, b) = x.1 ∧ (c, d) = x.2) ∧ Below w.heap.size w w'
theorem fourR_len (d : Int) (T : Nat → Nat) : (fourR d T).1.length ≤ 4 ∧ ((fourR d T).2 = true → (fourR d T).1.length = 4) := by
  unfold fourR
  split
  · exact ⟨by simp, by simp⟩
  · exact ⟨by simp, by simp⟩
theorem pos_lt4 {d : Int} {T : Nat → Nat} (h : 0 ≤ posI (fourR d T).1) : (posI (fourR d T).1).toNat < 4 ∧ posI (fourR d T).1 < 4 := by
  have l := (fourR_len d T).1
  have := (posN_lt (fourR d T).1 (fourR d T).1.length).2.2 h
  unfold posI at *
  omega
set_option maxRecDepth 100000 in
set_option maxHeartbeats 8000000 in
theorem narrow_impl (v : Value) (rs : List C2) (n : Nat) (lo hi : C2) (st tm : Nat) (w : World) (hv : RdV w v (cx rs)) (hn : rs.length = n + 1) (h1 : 1 ≤ n) (h2 : n ≤ 16) (ht : tm ≤ 20) (hlo : nc lo = lo) (hhi : nc hi = hi) (s4 : 4 ≤ st) (s60 : st ≤ 60) (hr : rootedF (rs.map nc) = true) (hb : boxF lo hi = true)
    (H : ∀ k, k < tm → ∀ b, iterB (rs.map nc) n st (lo, hi) k = some b → FourOk (rs.map nc) b.1 b.2 st) :
    Calls Try.prog 15 #[.agg #[v], .complex .f32 lo.1 lo.2, .complex .f32 hi.1 hi.2, .int .i64 (st : Int), .int .i64 (tm : Int)] w (RetNB (iterB (rs.map nc) n st (lo, hi) tm) w) := by
  obtain ⟨ao, cap, rfl, _⟩ := hv.shape
  rw [cx_length, hn] at hv ⊢
  have I1 := Lib.hid (show inB 4 (st : Int) 64 = true by simp [inB]; omega)
  have I2 := Lib.hid (show inB 0 (tm : Int) 20 = true by simp [inB]; omega)
  have Xp := Lib.hid (World.cell?_alloc_new w #[.slice ao (n + 1) cap] 28 0 : (w.alloc (.cells #[.slice ao (n + 1) cap] 28)).cell? ⟨w.heap.size, 0, none⟩ = some (.slice ao (n + 1) cap))
  have Hv := Lib.hid (hv.alloc (.cells #[.slice ao (n + 1) cap] 28))
  have B0 := Lib.hid (show Below w.heap.size w (w.alloc (.cells #[.slice ao (n + 1) cap] 28)) from (Below.refl _ _).alloc (Nat.le_refl _) _)
  have RI := Lib.hid (fun w1 hv => rooted_impl (.slice ao (n + 1) cap) rs w1 hv (by omega) (by omega))
  rw [hr] at RI
  have BX := Lib.hid (fun w1 => box_impl lo hi (by rw [hlo, hhi]; exact hb) w1)
  have FI := Lib.hid (fun (b : C2 × C2) (hb : FourOk (rs.map nc) b.1 b.2 st) w1 hv => four_impl (.slice ao (n + 1) cap) rs n b.1 b.2 st w1 hv hn h1 h2 hb)
  have HH := Lib.hid H
  generalize rs.map nc = F at *
  clear hv h1 h2 H hr hb hlo hhi
  go_enter Try.func15, Try.ntmps15
  go_wp2_with fail
  refine (RI.out _ Hv.out).mono ?_
  rintro e w1 ⟨rfl, hb1⟩
  replace Xp := Lib.hid ((hb1.cell (p := ⟨w.heap.size, 0, none⟩) (World.block_lt_of_cell? _ _ Xp.out)).trans Xp.out)
  replace Hv := Lib.hid (Hv.out.below hb1)
  replace B0 := Lib.hid (B0.out.trans (hb1.mono B0.out.size))
  clear hb1
  go_wp2_with fail
  refine (BX.out _).mono ?_
  rintro e W ⟨rfl, hb3⟩
  replace Xp := Lib.hid ((hb3.cell (p := ⟨w.heap.size, 0, none⟩) (World.block_lt_of_cell? _ _ Xp.out)).trans Xp.out)
  replace Hv := Lib.hid (Hv.out.below hb3)
  replace B0 := Lib.hid (B0.out.trans (hb3.mono B0.out.size))
  clear hb3
  have lp : w.heap.size < W.heap.size := World.block_lt_of_cell? _ _ Xp.out
  clear RI BX
  go_wp2_with (go_at_call 26; ((with_reducible refine (within_impl _ _ _ _).mono ?_); rintro e w8 ⟨rfl, rfl⟩; (first | rw [I1.out] | rw [I2.out])))
  go_loopw [1, 2, 37] (fun lv hv kv wr => ∃ (k : Nat) (b : C2 × C2), k ≤ tm ∧ kv = .int .i64 (k : Int) ∧ lv = .complex .f32 b.1.1 b.1.2 ∧ hv = .complex .f32 b.2.1 b.2.2 ∧ iterB F n st (lo, hi) k = some b ∧ Below W.heap.size W wr) (fun _ _ kv _ => tm - (intOf kv).toNat)
  case atStart => exact ⟨0, (lo, hi), by omega, rfl, rfl, rfl, rfl, Below.refl _ _⟩
  case round =>
    obtain ⟨k, b, hk, rfl, rfl, rfl, hit, hbel⟩ := hrel
    have hsz := hbel.size
    by_cases hlt : k < tm
    · have j1 : (k : Int) < (tm : Int) := by omega
      have xp := (hbel.cell (p := ⟨w.heap.size, 0, none⟩) lp).trans Xp.out
      have FO := Lib.hid (HH.out k hlt b hit)
      have HS0 := Lib.hid (show iterB F n st (lo, hi) (k + 1) = stepB F n st b by show (iterB F n st (lo, hi) k).bind _ = _; rw [hit]; rfl)
      have HN0 := Lib.hid (fun h : iterB F n st (lo, hi) (k + 1) = none => show iterB F n st (lo, hi) tm = none by
        have := iterB_none h (tm - (k + 1))
        rwa [show k + 1 + (tm - (k + 1)) = tm by omega] at this)
      have FIk := Lib.hid (FI.out b FO.out wr (Hv.out.below hbel))
      have HQ := Lib.hid (fun w1 => quarters_impl b.1 b.2 FO.out.ln FO.out.hn FO.out.mid w1)
      have Hbel := Lib.hid hbel
      have SB := Lib.hid (show stepB F n st b = if (fourR n (TQ F b.1 b.2 st)).2 = true ∧ 0 ≤ posI (fourR n (TQ F b.1 b.2 st)).1 then some (qLo b.1 b.2 (posI (fourR n (TQ F b.1 b.2 st)).1).toNat, qHi b.1 b.2 (posI (fourR n (TQ F b.1 b.2 st)).1).toNat) else none from rfl)
      have PL := Lib.hid (fun h => pos_lt4 (d := (n : Int)) (T := TQ F b.1 b.2 st) h)
      have LE := Lib.hid (fourR_len (n : Int) (TQ F b.1 b.2 st)).1
      clear hit hbel FI FO
      generalize fourR (n : Int) (TQ F b.1 b.2 st) = fr at *
      generalize stepB F n st b = sb at *
      obtain ⟨zs, ok⟩ := fr
      go_wp2_with fail
      (go_at_call 12; ((with_reducible refine (FIk.out).mono ?_); rintro e W4 ⟨v4, rfl, hrd, hb4⟩))
      have Hb4 := Lib.hid (Hbel.out.trans (hb4.mono hsz))
      have hs4 := Hb4.out.size
      have Hrd := Lib.hid hrd
      clear hrd hb4 FIk Hbel
      go_wp2_with fail
      (go_at_call 39; ((with_reducible refine (first_impl v4 zs _ Hrd.out (by have := LE.out; omega)).mono ?_); rintro e w6 ⟨rfl, rfl⟩))
      have HBB := Lib.hid (B0.out.trans (Hb4.out.mono (show w.heap.size ≤ W.heap.size by omega)))
      by_cases hgood : ok = true ∧ 0 ≤ posI zs
      · obtain ⟨rfl, hpos⟩ := hgood
        obtain ⟨p4, p4'⟩ := PL.out hpos
        have HS := Lib.hid (show iterB F n st (lo, hi) (k + 1) = some (qLo b.1 b.2 (posI zs).toNat, qHi b.1 b.2 (posI zs).toNat) by rw [HS0.out, SB.out, if_pos ⟨rfl, hpos⟩])
        obtain ⟨j, hj⟩ : ∃ j : Nat, posI zs = (j : Int) := ⟨(posI zs).toNat, by omega⟩
        rw [hj] at HS p4 p4' ⊢
        rw [show ((j : Int)).toNat = j from rfl] at HS p4
        clear PL SB HS0 HN0 Hrd hj hpos
        have j0 : (0 : Int) ≤ (j : Int) := by omega
        have jn : ¬ ((j : Int) < 0) := by omega
        go_wp2_with fail
        (go_at_call 36; ((with_reducible refine (HQ.out _).mono ?_); rintro e W5 ⟨g, rfl, hg1, hg2, hb5, hcl⟩))
        have cA := (hcl j p4).1
        have cB := (hcl j p4).2
        have cA2 : W5.cell? ⟨g, j * 2, none⟩ = some (.complex .f32 (qLo b.1 b.2 j).1 (qLo b.1 b.2 j).2) := by rw [Nat.mul_comm]; exact cA
        have cB2 : W5.cell? ⟨g, j * 2 + 1, none⟩ = some (.complex .f32 (qHi b.1 b.2 j).1 (qHi b.1 b.2 j).2) := by rw [Nat.mul_comm]; exact cB
        have HB5 := Lib.hid (Hb4.out.trans (hb5.mono (show W.heap.size ≤ W4.heap.size by omega)))
        have hs5 := HB5.out.size
        have HB6 := Lib.hid (show Below W.heap.size W (W5.alloc (.cells #[.complex .f32 (qLo b.1 b.2 j).1 (qLo b.1 b.2 j).2, .complex .f32 (qHi b.1 b.2 j).1 (qHi b.1 b.2 j).2] 66)) from HB5.out.alloc (by omega) _)
        clear hcl hb5 HQ
        go_upto_region 10 with fail
        have xa : (W5.alloc (.cells #[.complex .f32 (qLo b.1 b.2 j).1 (qLo b.1 b.2 j).2, .complex .f32 (qHi b.1 b.2 j).1 (qHi b.1 b.2 j).2] 66)).cell? ⟨W5.heap.size, 0, none⟩ = some (.complex .f32 (qLo b.1 b.2 j).1 (qLo b.1 b.2 j).2) := (World.cell?_alloc_new W5 _ _ 0 : _)
        have xb : (W5.alloc (.cells #[.complex .f32 (qLo b.1 b.2 j).1 (qLo b.1 b.2 j).2, .complex .f32 (qHi b.1 b.2 j).1 (qHi b.1 b.2 j).2] 66)).cell? ⟨W5.heap.size, 1, none⟩ = some (.complex .f32 (qHi b.1 b.2 j).1 (qHi b.1 b.2 j).2) := (World.cell?_alloc_new W5 _ _ 1 : _)
        refine wp_region_held_drew (S := fun w' => w'.cell? ⟨W5.heap.size, 0, none⟩ = some (.complex .f32 (qLo b.1 b.2 j).1 (qLo b.1 b.2 j).2) ∧ w'.cell? ⟨W5.heap.size, 1, none⟩ = some (.complex .f32 (qHi b.1 b.2 j).1 (qHi b.1 b.2 j).2)) (by kernel_rfl) (by exact ⟨xa, xb⟩) (fun hHeld => ?_)
        refine wpAnyH_take (i := 0) (v := ?_) rfl (by kernel_rfl) (by kernel_rfl) (by kernel_rfl) (fun _ _ _ h => h) (Or.inl ⟨by rfl, ?_⟩) (by assumption) ?_
        rotate_left 1
        (intro w hSw; (try dsimp only at hSw); go_simp; (try with_reducible rfl))
        (try simp only [List.getElem_toArray, List.getElem_cons_succ, List.getElem_cons_zero, Act.put, List.setIfInBounds_toArray, List.set_cons_zero, List.set_cons_succ])
        refine wpAnyH_take (i := 1) (v := ?_) rfl (by kernel_rfl) (by kernel_rfl) (by kernel_rfl) (fun _ _ _ h => h) (Or.inl ⟨by rfl, ?_⟩) (by assumption) ?_
        rotate_left 1
        (intro w hSw; (try dsimp only at hSw); go_simp; (try with_reducible rfl))
        (try simp only [List.getElem_toArray, List.getElem_cons_succ, List.getElem_cons_zero, Act.put, List.setIfInBounds_toArray, List.set_cons_zero, List.set_cons_succ])
        refine wpAnyH_take (i := 2) (v := ?_) rfl (by kernel_rfl) (by kernel_rfl) (by kernel_rfl) (fun _ _ _ h => h) (Or.inl ⟨by rfl, ?_⟩) (by assumption) ?_
        rotate_left 1
        (intro w hSw; (try dsimp only at hSw); go_simp; (try with_reducible rfl))
        (try simp only [List.getElem_toArray, List.getElem_cons_succ, List.getElem_cons_zero, Act.put, List.setIfInBounds_toArray, List.set_cons_zero, List.set_cons_succ])
        refine wpAnyH_take (i := 3) (v := ?_) rfl (by kernel_rfl) (by kernel_rfl) (by kernel_rfl) (fun _ _ _ h => h) (Or.inl ⟨by rfl, ?_⟩) (by assumption) ?_
        rotate_left 1
        (intro w hSw; (try dsimp only at hSw); go_simp; (try with_reducible rfl))
        (try simp only [List.getElem_toArray, List.getElem_cons_succ, List.getElem_cons_zero, Act.put, List.setIfInBounds_toArray, List.set_cons_zero, List.set_cons_succ])
        refine wpAnyH_take (i := 4) (v := ?_) rfl (by kernel_rfl) (by kernel_rfl) (by kernel_rfl) (fun _ _ _ h => h) (Or.inl ⟨by rfl, ?_⟩) (by assumption) ?_
        rotate_left 1
        (intro w hSw; (try dsimp only at hSw); go_simp; (try with_reducible rfl))
        (try simp only [List.getElem_toArray, List.getElem_cons_succ, List.getElem_cons_zero, Act.put, List.setIfInBounds_toArray, List.set_cons_zero, List.set_cons_succ])
        refine wpAnyH_take (i := 5) (v := ?_) rfl (by kernel_rfl) (by kernel_rfl) (by kernel_rfl) (fun _ _ _ h => h) (Or.inl ⟨by rfl, ?_⟩) (by assumption) ?_
        rotate_left 1
        (intro w hSw; (try dsimp only at hSw); go_simp; (try with_reducible rfl))
        (try simp only [List.getElem_toArray, List.getElem_cons_succ, List.getElem_cons_zero, Act.put, List.setIfInBounds_toArray, List.set_cons_zero, List.set_cons_succ])
        refine wpAnyH_done (by kernel_rfl) ?_ _
        go_wp2_with fail
        go_roundw
        case rel => exact ⟨k + 1, _, by omega, by go_num, rfl, rfl, HS.out, by first | exact HB6.out | exact below_drewN HB6.out _ | exact Below.drew HB6.out⟩
        case measure => simp [intOf]; omega
      · have HS := Lib.hid (show iterB F n st (lo, hi) tm = none from HN0.out (by rw [HS0.out, SB.out, if_neg hgood]))
        clear PL SB HS0 HN0 Hrd HQ
        cases ok
        · go_wp2_with fail
          go_ret3
          rw [HS.out]
          exact ⟨_, _, _, _, rfl, fun x hx => (by cases hx), HBB.out⟩
        · have hp : posI zs < 0 := by
            rcases Int.lt_or_le (posI zs) 0 with h | h
            · exact h
            · exact absurd ⟨rfl, h⟩ hgood
          go_wp2_with fail
          go_ret3
          rw [HS.out]
          exact ⟨_, _, _, _, rfl, fun x hx => (by cases hx), HBB.out⟩
    · obtain rfl : k = tm := by omega
      have HBB := Lib.hid (B0.out.trans (hbel.mono (show w.heap.size ≤ W.heap.size by omega)))
      have HI := Lib.hid hit
      clear hbel hit
      go_wp2_with fail
      go_ret3
      rw [HI.out]
      exact ⟨_, _, _, _, rfl, fun x hx => (by cases hx; exact ⟨rfl, rfl⟩), HBB.out⟩
end Go.Proofs.Ytklonahkacikbaa
