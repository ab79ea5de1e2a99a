/- Values at many points, of the program and of the reference: the same, up to the bits of a NaN. Conditions: none. -/
import Derived.Test.YtcbaanidbkjmcaaFamSum
namespace Go.Proofs.Ytcbaanidbkjmcaa
open Go Go.RowKit

def valF (kind n : Int) (x : Nat) : Nat := (familyAtF kind n x).1
def valOk (kind n : Int) (x : Nat) : Bool := (familyAtF kind n x).2
def valsF (kind n : Int) (ws : List Nat) (workers : Int) : List Nat × Bool :=
  if (inB 1 ws.length 256 && inB 1 workers 8 && ws.all (valOk kind n)) = true then (ws.map (valF kind n), true) else ([], false)

theorem valsF_le (kind n : Int) (ws : List Nat) (workers : Int) : (valsF kind n ws workers).1.length ≤ 1048576 := by
  unfold valsF
  split
  · rename_i h
    simp only [Bool.and_eq_true, inB_true] at h
    simp only [List.length_map]; omega
  · simp

theorem valOk_kind {kind n : Int} (h : kindB kind n = false) (x : Nat) : valOk kind n x = false := by simp [valOk, familyAtF, familyOk, h]

def ValRel (kind n : Int) (rs : List Nat) (w : World) (v i : Value) (wr : World) : Prop :=
  ∃ (k : Nat) (ss : List Nat), k ≤ rs.length ∧ i = .int .i64 k ∧ ss.length = k ∧ ss.map (nrm .f32) = ((rs.take k).map (nrm .f32)).map (valF kind n) ∧ ((rs.take k).map (nrm .f32)).all (valOk kind n) = true ∧
    wr.ownsRow w.heap.size 22 1 v k (ss.map (Value.float .f32)) ∧ Below w.heap.size w wr

theorem take_succ_get {rs : List Nat} {k : Nat} (h : k < rs.length) : rs.take (k + 1) = rs.take k ++ [rs[k]] := by rw [List.take_succ_eq_append_getElem h]

theorem areWorkers_impl (n : Int) (w : World) : Calls Try.prog 51 #[.int .i64 n] w fun e w' => e = .returned (.bool (inB 1 n 8)) ∧ w = w' := by
  go_enter Try.func51, Try.ntmps51
  go_wp2_with (go_at_call 45; refine (within_impl _ _ _ _).mono ?_; rintro e w' ⟨rfl, rfl⟩)
  go_ret
  exact ⟨rfl, rfl⟩

set_option maxRecDepth 100000 in
set_option maxHeartbeats 400000 in
theorem values_spec (kind n : Int) (v : Value) (rs : List Nat) (workers : Int) (w : World) (hv : RdF w v rs) (hl : rs.length ≤ 1099511627776) :
    Calls Try.prog 26 #[.int .i64 kind, .int .i64 n, v, .int .i64 workers] w (RetRowB (valsF kind n (rs.map (nrm .f32)) workers) w) := by
  obtain ⟨i0, hi, hz0, hz1, hz2⟩ := info_parts info22
  have Hv := Lib.hid hv
  obtain ⟨ao, cap, rfl, hc⟩ := hv
  have hl1 : (rs.length : Int) ≤ 1099511627776 := by omega
  have no : (inB 1 rs.length 256 && inB 1 workers 8 && (rs.map (nrm .f32)).all (valOk kind n)) = false → ∀ (e : Ending) (w' : World), (e = .returned (.tuple #[.slice none 0 0, .bool false]) ∧ Below w.heap.size w w') → RetRowB (valsF kind n (rs.map (nrm .f32)) workers) w e w' := by
    rintro hno e w' ⟨rfl, hb⟩
    rw [show valsF kind n (rs.map (nrm .f32)) workers = ([], false) by rw [valsF, if_neg (by rw [List.length_map, hno]; decide)]]
    exact ⟨_, [], rfl, rfl, World.ownsRow_nil _ _ _ _, hb⟩
  by_cases hn1 : (rs.length : Int) < 1
  · refine Calls.mono ?_ (no (by rw [inB_false.2 (by omega)]; rfl))
    clear no hc
    skip
    all_goals
      go_enter Try.func26, Try.ntmps26
      go_wp2_with (go_at_call 48; refine (in_spec _ _ _ _).mono ?_; rintro e w' ⟨rfl, rfl⟩)
      go_ret2
      exact ⟨rfl, Below.refl _ _⟩
  · by_cases hn2 : 256 < (rs.length : Int)
    · refine Calls.mono ?_ (no (by rw [inB_false.2 (by omega)]; rfl))
      clear no hc
      skip
      all_goals
        go_enter Try.func26, Try.ntmps26
        go_wp2_with (go_at_call 48; refine (in_spec _ _ _ _).mono ?_; rintro e w' ⟨rfl, rfl⟩)
        go_ret2
        exact ⟨rfl, Below.refl _ _⟩
    · cases hw : inB 1 workers 8
      · refine Calls.mono ?_ (no (by rw [hw]; simp))
        clear no hc
        skip
        all_goals
          go_enter Try.func26, Try.ntmps26
          go_wp2_with (go_at_call 48; refine (in_spec _ _ _ _).mono ?_; rintro e w' ⟨rfl, rfl⟩)
          go_ret2
          exact ⟨rfl, Below.refl _ _⟩
      · obtain ⟨b, off, rfl, hcell⟩ := hc.resolve_left (fun e => by rw [e] at hn1; simp at hn1)
        have Hc := Lib.hid hcell
        have Hn := Lib.hid no
        have hin : inB 1 rs.length 256 = true := inB_true.2 (by omega)
        have Hin := Lib.hid hin
        clear hcell hc no hin
        skip
        skip
        go_enter Try.func26, Try.ntmps26
        go_wp2_with (go_at_call 48; refine (in_spec _ _ _ _).mono ?_; rintro e w' ⟨rfl, rfl⟩)
        go_loopw [10, 11] (fun u i wr => ValRel kind n rs w u i wr) (fun _ i _ => rs.length - (intOf i).toNat)
        case atStart => exact ⟨0, [], Nat.zero_le _, rfl, rfl, rfl, rfl, World.ownsRow_lit _ _ _ (by simp) (by decide) rfl, (Below.refl _ _).alloc (Nat.le_refl _) _⟩
        case round =>
          obtain ⟨k, ss, hk, rfl, hss, hval, hall, hown, hbel⟩ := hrel
          by_cases hlt : k < rs.length
          · have c1 : wr.cell? ⟨b, off + k, none⟩ = some (.float .f32 rs[k]) := by rw [hbel.cell (World.block_lt_of_cell? w _ (Hc.out k hlt))]; exact Hc.out k hlt
            have hw1 : w.heap.size ≤ wr.heap.size := hbel.size
            have Hval := Lib.hid hval
            have Hall := Lib.hid hall
            have Hss := Lib.hid hss
            have Hown := Lib.hid hown
            have Hbel := Lib.hid hbel
            have Htk := Lib.hid (take_succ_get hlt)
            have hd : (rs.map (nrm .f32)).all (valOk kind n) = true → valOk kind n (nrm .f32 rs[k]) = true := fun h => by
              rw [List.all_eq_true] at h; exact h _ (List.mem_map.2 ⟨_, List.getElem_mem hlt, rfl⟩)
            have Hd := Lib.hid hd
            clear hval hall hss hown hbel hd
            generalize rs[k] = x at *
            have C := Lib.hid (familyAt_spec kind n x wr)
            go_wp2_with fail
            refine C.out.mono ?_
            rintro e w1 ⟨r, rfl, hr, hb1⟩
            have Hr := Lib.hid hr
            clear hr
            have hown1 := ownsRow_below Hown.out hb1
            have hw2 := hb1.size
            have Hb1 := Lib.hid hb1
            clear hb1
            cases hok : (familyAtF kind n (nrm .f32 x)).2
            · have hno := Hn.out (by
                rw [Hin.out, hw, Bool.true_and, Bool.true_and]
                cases ha : (rs.map (nrm .f32)).all (valOk kind n) with
                | false => rfl
                | true => have := Hd.out ha; rw [valOk, hok] at this; cases this)
              have Hno := Lib.hid hno
              clear hno hown1
              go_wp2_with fail
              go_ret2
              exact Hno.out _ _ ⟨rfl, Hbel.out.trans (Hb1.out.mono hw1)⟩
            · have Hok := Lib.hid hok
              clear hok
              go_wp2_with (at_builtin; (refine wpList_push hown1 i0 _ 4 hi hz0 hz1 hz2 rfl rfl _ _ 31 rfl Try.underlying31 _ _ rfl rfl rfl rfl (by unfold maxLen; omega) (by omega) (by omega) ?_); intro g1 cap1 w2 hown2 hat2 hlt2 hgrow2)
              go_roundw
              case rel =>
                refine ⟨k + 1, ss ++ [r], by omega, by go_num, by simp [Hss.out], ?_, ?_, by simpa using hown2, ?_⟩
                · rw [Htk.out]; simp only [List.map_append, Hval.out, List.map_cons, List.map_nil, Hr.out]; rfl
                · rw [Htk.out]; simp only [List.map_append, List.all_append, Hall.out, List.map_cons, List.map_nil, List.all_cons, List.all_nil, valOk, Hok.out, Bool.and_self]
                · refine (Hbel.out.trans (Hb1.out.mono hw1)).grown (B := w.heap.size) hgrow2 (by omega) (fun q hq => ?_)
                  exact (Hown.out.lt q hq).1
              case measure => simp [intOf]; omega
          · obtain rfl : k = rs.length := by omega
            rw [List.take_length] at hval hall
            have H := Lib.hid (show valsF kind n (rs.map (nrm .f32)) workers = ((rs.map (nrm .f32)).map (valF kind n), true) by
              rw [valsF, if_pos (by rw [List.length_map, Hin.out, hw, hall]; rfl)])
            have Hval := Lib.hid hval
            have Hss := Lib.hid hss
            clear hval hall hss
            go_wp2_with fail
            go_ret2
            rw [H.out]
            exact ⟨_, ss, rfl, Hval.out, by rw [Hss.out]; exact hown, hbel⟩

set_option maxRecDepth 100000 in
set_option maxHeartbeats 400000 in
theorem values_impl (kind n : Int) (v : Value) (rs : List Nat) (workers : Int) (w : World) (hv : RdF w v rs) (hl : rs.length ≤ 1099511627776) :
    Calls Try.prog 27 #[.int .i64 kind, .int .i64 n, v, .int .i64 workers] w (RetRowB (valsF kind n (rs.map (nrm .f32)) workers) w) := by
  obtain ⟨i0, hi, hz0, hz1, hz2⟩ := info_parts info22
  have Hv := Lib.hid hv
  obtain ⟨ao, cap, rfl, hc⟩ := hv
  have hl1 : (rs.length : Int) ≤ 1099511627776 := by omega
  have no : (inB 1 rs.length 256 && inB 1 workers 8 && (rs.map (nrm .f32)).all (valOk kind n)) = false → ∀ (e : Ending) (w' : World), (e = .returned (.tuple #[.slice none 0 0, .bool false]) ∧ Below w.heap.size w w') → RetRowB (valsF kind n (rs.map (nrm .f32)) workers) w e w' := by
    rintro hno e w' ⟨rfl, hb⟩
    rw [show valsF kind n (rs.map (nrm .f32)) workers = ([], false) by rw [valsF, if_neg (by rw [List.length_map, hno]; decide)]]
    exact ⟨_, [], rfl, rfl, World.ownsRow_nil _ _ _ _, hb⟩
  by_cases hn1 : (rs.length : Int) < 1
  · refine Calls.mono ?_ (no (by rw [inB_false.2 (by omega)]; rfl))
    clear no hc
    cases hk : kindB kind n
    all_goals
      go_enter Try.func27, Try.ntmps27
      go_wp2_with (first | (go_at_call 37; refine (isKind_impl _ _ _).mono ?_; rintro e w' ⟨rfl, rfl⟩) | (go_at_call 51; refine (areWorkers_impl _ _).mono ?_; rintro e w' ⟨rfl, rfl⟩))
      go_ret2
      exact ⟨rfl, Below.refl _ _⟩
  · by_cases hn2 : 256 < (rs.length : Int)
    · refine Calls.mono ?_ (no (by rw [inB_false.2 (by omega)]; rfl))
      clear no hc
      cases hk : kindB kind n
      all_goals
        go_enter Try.func27, Try.ntmps27
        go_wp2_with (first | (go_at_call 37; refine (isKind_impl _ _ _).mono ?_; rintro e w' ⟨rfl, rfl⟩) | (go_at_call 51; refine (areWorkers_impl _ _).mono ?_; rintro e w' ⟨rfl, rfl⟩))
        go_ret2
        exact ⟨rfl, Below.refl _ _⟩
    · cases hw : inB 1 workers 8
      · refine Calls.mono ?_ (no (by rw [hw]; simp))
        clear no hc
        cases hk : kindB kind n
        all_goals
          go_enter Try.func27, Try.ntmps27
          go_wp2_with (first | (go_at_call 37; refine (isKind_impl _ _ _).mono ?_; rintro e w' ⟨rfl, rfl⟩) | (go_at_call 51; refine (areWorkers_impl _ _).mono ?_; rintro e w' ⟨rfl, rfl⟩))
          go_ret2
          exact ⟨rfl, Below.refl _ _⟩
      · obtain ⟨b, off, rfl, hcell⟩ := hc.resolve_left (fun e => by rw [e] at hn1; simp at hn1)
        have Hc := Lib.hid hcell
        have Hn := Lib.hid no
        have hin : inB 1 rs.length 256 = true := inB_true.2 (by omega)
        have Hin := Lib.hid hin
        clear hcell hc no hin
        skip
        by_cases hk : kindB kind n = true
        rotate_left
        · have hk : kindB kind n = false := by simpa using hk
          refine Calls.mono ?_ (Hn.out (by
            rw [Hin.out, hw, Bool.true_and, Bool.true_and]
            cases rs with
            | nil => simp at hn1
            | cons y ys => simp [valOk_kind hk]))
          clear Hc
          go_enter Try.func27, Try.ntmps27
          go_wp2_with (go_at_call 37; refine (isKind_impl _ _ _).mono ?_; rintro e w' ⟨rfl, rfl⟩)
          go_ret2
          exact ⟨rfl, Below.refl _ _⟩
        go_enter Try.func27, Try.ntmps27
        go_wp2_with (first | (go_at_call 37; refine (isKind_impl _ _ _).mono ?_; rintro e w' ⟨rfl, rfl⟩) | (go_at_call 51; refine (areWorkers_impl _ _).mono ?_; rintro e w' ⟨rfl, rfl⟩))
        go_loopw [10, 37] (fun u i wr => ValRel kind n rs w u i wr) (fun _ i _ => rs.length - (intOf i).toNat)
        case atStart => exact ⟨0, [], Nat.zero_le _, rfl, rfl, rfl, rfl, World.ownsRow_lit _ _ _ (by simp) (by decide) rfl, (Below.refl _ _).alloc (Nat.le_refl _) _⟩
        case round =>
          obtain ⟨k, ss, hk, rfl, hss, hval, hall, hown, hbel⟩ := hrel
          by_cases hlt : k < rs.length
          · have c1 : wr.cell? ⟨b, off + k, none⟩ = some (.float .f32 rs[k]) := by rw [hbel.cell (World.block_lt_of_cell? w _ (Hc.out k hlt))]; exact Hc.out k hlt
            have hw1 : w.heap.size ≤ wr.heap.size := hbel.size
            have Hval := Lib.hid hval
            have Hall := Lib.hid hall
            have Hss := Lib.hid hss
            have Hown := Lib.hid hown
            have Hbel := Lib.hid hbel
            have Htk := Lib.hid (take_succ_get hlt)
            have hd : (rs.map (nrm .f32)).all (valOk kind n) = true → valOk kind n (nrm .f32 rs[k]) = true := fun h => by
              rw [List.all_eq_true] at h; exact h _ (List.mem_map.2 ⟨_, List.getElem_mem hlt, rfl⟩)
            have Hd := Lib.hid hd
            clear hval hall hss hown hbel hd
            generalize rs[k] = x at *
            have C := Lib.hid (familyAt_impl kind n x wr)
            go_wp2_with fail
            refine C.out.mono ?_
            rintro e w1 ⟨r, rfl, hr, hb1⟩
            have Hr := Lib.hid hr
            clear hr
            have hown1 := ownsRow_below Hown.out hb1
            have hw2 := hb1.size
            have Hb1 := Lib.hid hb1
            clear hb1
            cases hok : (familyAtF kind n (nrm .f32 x)).2
            · have hno := Hn.out (by
                rw [Hin.out, hw, Bool.true_and, Bool.true_and]
                cases ha : (rs.map (nrm .f32)).all (valOk kind n) with
                | false => rfl
                | true => have := Hd.out ha; rw [valOk, hok] at this; cases this)
              have Hno := Lib.hid hno
              clear hno hown1
              go_wp2_with fail
              go_ret2
              exact Hno.out _ _ ⟨rfl, Hbel.out.trans (Hb1.out.mono hw1)⟩
            · have Hok := Lib.hid hok
              clear hok
              go_wp2_with (at_builtin; (refine wpList_push hown1 i0 _ 4 hi hz0 hz1 hz2 rfl rfl _ _ 31 rfl Try.underlying31 _ _ rfl rfl rfl rfl (by unfold maxLen; omega) (by omega) (by omega) ?_); intro g1 cap1 w2 hown2 hat2 hlt2 hgrow2)
              go_roundw
              case rel =>
                refine ⟨k + 1, ss ++ [r], by omega, by go_num, by simp [Hss.out], ?_, ?_, by simpa using hown2, ?_⟩
                · rw [Htk.out]; simp only [List.map_append, Hval.out, List.map_cons, List.map_nil, Hr.out]; rfl
                · rw [Htk.out]; simp only [List.map_append, List.all_append, Hall.out, List.map_cons, List.map_nil, List.all_cons, List.all_nil, valOk, Hok.out, Bool.and_self]
                · refine (Hbel.out.trans (Hb1.out.mono hw1)).grown (B := w.heap.size) hgrow2 (by omega) (fun q hq => ?_)
                  exact (Hown.out.lt q hq).1
              case measure => simp [intOf]; omega
          · obtain rfl : k = rs.length := by omega
            rw [List.take_length] at hval hall
            have H := Lib.hid (show valsF kind n (rs.map (nrm .f32)) workers = ((rs.map (nrm .f32)).map (valF kind n), true) by
              rw [valsF, if_pos (by rw [List.length_map, Hin.out, hw, hall]; rfl)])
            have Hval := Lib.hid hval
            have Hss := Lib.hid hss
            clear hval hall hss
            go_wp2_with fail
            go_ret2
            rw [H.out]
            exact ⟨_, ss, rfl, Hval.out, by rw [Hss.out]; exact hown, hbel⟩

end Go.Proofs.Ytcbaanidbkjmcaa
