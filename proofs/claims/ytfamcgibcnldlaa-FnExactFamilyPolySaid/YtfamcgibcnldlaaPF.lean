/- Valid polynomials, and polynomials of lists, of the program and of the reference. Conditions: lists of 1 to 17 numbers. -/
import Derived.Test.YtfamcgibcnldlaaPD
import Derived.Handy
namespace Go.Proofs.Ytfamcgibcnldlaa
open Go Go.RowKit
set_option linter.unusedSimpArgs false
set_option linter.unusedVariables false

theorem Below.via {W w w' : World} {B : Nat} (hb : Below W.heap.size W w') (h : Below B w W) (hs : B ≤ W.heap.size) : Below B w w' := h.trans (hb.mono hs)
theorem allFinV_map (rs : List Nat) : allFin rs = (rs.map (nrm .f32)).all finF := by simp [allFin, List.all_map, Function.comp_def]
theorem validF_map (rs : List Nat) (h : 1 ≤ rs.length) : validF (rs.map (nrm .f32)) = (allFin rs && (decide (rs.length = 1) || !zeroF (nrm .f32 (rs[rs.length - 1]'(by omega))))) := by
  unfold validF
  rw [← allFinV_map, List.length_map, getD_nrm]
  simp [List.getD, show rs.length - 1 < rs.length by omega]

set_option maxRecDepth 100000 in
set_option maxHeartbeats 400000 in
theorem valid_impl (v : Value) (rs : List Nat) (w : World) (hv : RdV w v (cx rs)) (h1 : 1 ≤ rs.length) (h2 : rs.length ≤ 17) : Calls Try.prog 47 #[.agg #[v]] w (RB (validF (rs.map (nrm .f32))) w) := by
  have HF := Lib.hid (validF_map rs h1)
  rcases hv.openC with ⟨rfl, _⟩ | ⟨b, off, cap, rfl, hb, hcp, hc⟩
  · simp at h1
  have c1 := hc (rs.length - 1) (by omega)
  have Hv := Lib.hid hv
  rw [HF.out]
  clear hc hv HF
  generalize (rs[rs.length - 1]'(by omega)) = x at *
  by_cases hn : rs.length = 1
  · have hd : decide (rs.length = 1) = true := by simpa using hn
    rw [hd, Bool.true_or, Bool.and_true]
    clear c1 hd
    have he : ((rs.length : Int) == 1) = true := by rw [hn]; rfl
    clear hn
    cases ha : allFin rs <;>
    · go_enter Try.func47, Try.ntmps47
      go_wp2_with (go_at_call 52; go_must (refine (allFinite_impl _ rs _ (Hv.out.alloc _) (by omega)).mono ?_); rintro e w' ⟨rfl, hb1⟩; obtain ⟨chb1, fhb1⟩ := bcell hb1; have zhb1 := hb1.size; (try simp only [World.size_alloc, World.size_setCell, World.size_drew] at zhb1); (try have lhb1 : w.heap.size < w'.heap.size := by omega))
      go_ret
      exact ⟨by simp, by (repeat' (first | (with_reducible exact Below.refl _ _) | (with_reducible assumption) | (with_reducible refine Below.alloc ?_ ?_ _) | (with_reducible refine Below.setCell ?_ ?_ _) | (with_reducible refine Below.drew ?_) | (with_reducible refine Below.via (by assumption) ?_ ?_) | go_size))⟩
  · have hd : decide (rs.length = 1) = false := by simpa using hn
    rw [hd, Bool.false_or]
    have he : ((rs.length : Int) == 1) = false := by simp; omega
    clear hd hn
    cases ha : allFin rs
    · go_enter Try.func47, Try.ntmps47
      go_wp2_with (go_at_call 52; go_must (refine (allFinite_impl _ rs _ (Hv.out.alloc _) (by omega)).mono ?_); rintro e w' ⟨rfl, hb1⟩; obtain ⟨chb1, fhb1⟩ := bcell hb1; have zhb1 := hb1.size; (try simp only [World.size_alloc, World.size_setCell, World.size_drew] at zhb1); (try have lhb1 : w.heap.size < w'.heap.size := by omega))
      go_ret
      exact ⟨by simp, by (repeat' (first | (with_reducible exact Below.refl _ _) | (with_reducible assumption) | (with_reducible refine Below.alloc ?_ ?_ _) | (with_reducible refine Below.setCell ?_ ?_ _) | (with_reducible refine Below.drew ?_) | (with_reducible refine Below.via (by assumption) ?_ ?_) | go_size))⟩
    · cases hz : zeroF (nrm .f32 x) <;>
      · go_enter Try.func47, Try.ntmps47
        go_wp2_with (go_at_call 52; go_must (refine (allFinite_impl _ rs _ (Hv.out.alloc _) (by omega)).mono ?_); rintro e w' ⟨rfl, hb1⟩; obtain ⟨chb1, fhb1⟩ := bcell hb1; have zhb1 := hb1.size; (try simp only [World.size_alloc, World.size_setCell, World.size_drew] at zhb1); (try have lhb1 : w.heap.size < w'.heap.size := by omega))
        go_ret
        exact ⟨by simp, by (repeat' (first | (with_reducible exact Below.refl _ _) | (with_reducible assumption) | (with_reducible refine Below.alloc ?_ ?_ _) | (with_reducible refine Below.setCell ?_ ?_ _) | (with_reducible refine Below.drew ?_) | (with_reducible refine Below.via (by assumption) ?_ ?_) | go_size))⟩

set_option maxRecDepth 100000 in
set_option maxHeartbeats 400000 in
theorem is_spec (p : Nat) (v : Value) (rs : List Nat) (w : World) (hp : w.cell? ⟨p, 0, none⟩ = some v) (hv : RdV w v (cx rs)) (h1 : 1 ≤ rs.length) (h2 : rs.length ≤ 17) : Calls Try.prog 43 #[.pointer (some ⟨p, 0, none⟩)] w (RetB (validF (rs.map (nrm .f32))) w) := by
  have HF := Lib.hid (validF_map rs h1)
  rcases hv.openC with ⟨rfl, _⟩ | ⟨b, off, cap, rfl, hb, hcp, hc⟩
  · simp at h1
  have c1 := hc (rs.length - 1) (by omega)
  have Hv := Lib.hid hv
  rw [HF.out]
  clear hc hv HF
  generalize (rs[rs.length - 1]'(by omega)) = x at *
  by_cases hn : rs.length = 1
  · have hd : decide (rs.length = 1) = true := by simpa using hn
    rw [hd, Bool.true_or, Bool.and_true]
    clear c1 hd
    have he : ((rs.length : Int) == 1) = true := by rw [hn]; rfl
    clear hn
    cases ha : allFin rs <;>
    · go_enter Try.func43, Try.ntmps43
      go_wp2_with (go_at_call 51; go_must (refine (cfinite_spec _ rs _ Hv.out (by omega)).mono ?_); rintro e w' ⟨m, rfl, rfl⟩)
      go_ret
      exact ⟨_, by simp, rfl⟩
  · have hd : decide (rs.length = 1) = false := by simpa using hn
    rw [hd, Bool.false_or]
    have he : ((rs.length : Int) == 1) = false := by simp; omega
    clear hd hn
    cases ha : allFin rs
    · go_enter Try.func43, Try.ntmps43
      go_wp2_with (go_at_call 51; go_must (refine (cfinite_spec _ rs _ Hv.out (by omega)).mono ?_); rintro e w' ⟨m, rfl, rfl⟩)
      go_ret
      exact ⟨_, by simp, rfl⟩
    · cases hz : zeroF (nrm .f32 x) <;>
      · go_enter Try.func43, Try.ntmps43
        go_wp2_with (go_at_call 51; go_must (refine (cfinite_spec _ rs _ Hv.out (by omega)).mono ?_); rintro e w' ⟨m, rfl, rfl⟩)
        go_ret
        exact ⟨_, by simp, rfl⟩

/-- A polynomial of the call's own, and whether it is there. -/
def RetP (F : List Nat × Bool) (B : Nat) (w : World) (e : Ending) (w' : World) : Prop := ∃ v qs, e = .returned (.tuple #[.agg #[v], .bool F.2]) ∧ qs.map (nrm .f32) = F.1 ∧ OwV 59 w' B v (cx qs) ∧ Below w.heap.size w w'
theorem cx_takes (rs : List Nat) (n : Nat) : cx (rs.take n) = (cx rs).take n := by rw [cx, cx, List.map_take]
theorem grown_set2 (w : World) (g j : Nat) (u : Value) : w.grownBy (w.setCell ⟨g, j, none⟩ u) (some g) :=
  ⟨rfl, rfl, rfl, by simp [World.setCell], fun k _ hk => Below.heap_setCell _ _ _ _ (fun e => hk (by simp at e; rw [e]))⟩
theorem OwV.setOther {e : TypeId} {w : World} {B g j : Nat} {v : Value} {xs : List Value} (h : OwV e w B v xs) (hg : v.ownBlock = none ∨ v.ownBlock ≠ some g) (u : Value) : OwV e (w.setCell ⟨g, j, none⟩ u) B v xs := h.kept (grown_set2 _ _ _ _) hg
theorem trimF_map (rs : List Nat) : (rs.take (trimN (rs.map (nrm .f32)) rs.length)).map (nrm .f32) = trimF (rs.map (nrm .f32)) := by rw [trimF, List.length_map, List.map_take]

set_option maxRecDepth 100000 in
set_option maxHeartbeats 400000 in
theorem polyOf_impl (v : Value) (rs : List Nat) (w : World) (B : Nat) (hB : B ≤ w.heap.size) (hv : OwV 59 w B v (cx rs)) (hn : rs ≠ []) (hl : rs.length ≤ 17) : Calls Try.prog 32 #[v] w (RetP (polyF (rs.map (nrm .f32))) B w) := by
  have h0 : 0 < rs.length := List.length_pos_iff.2 hn
  have HT := Lib.hid (trimF_map rs)
  have t0 := trimN_pos (rs.map (nrm .f32)) h0
  have t1 := trimN_le (rs.map (nrm .f32)) rs.length
  have HP := Lib.hid (show polyF (rs.map (nrm .f32)) = if validF (trimF (rs.map (nrm .f32))) = true then (trimF (rs.map (nrm .f32)), true) else ([], false) from rfl)
  rw [HP.out, ← HT.out]
  clear HP HT
  obtain ⟨g, cap, rfl, hg0, hg1, hc1, hc2, _, _⟩ := hv.open (by simpa [cx] using hn)
  rw [cx_length] at hc1 hv ⊢
  have Hr := Lib.hid hv.rd
  have Ht := Lib.hid (hv.take (n := trimN (rs.map (nrm .f32)) rs.length) (c := trimN (rs.map (nrm .f32)) rs.length) (by simpa using t1) (Nat.le_refl _) (by omega))
  have hq : (rs.take (trimN (rs.map (nrm .f32)) rs.length)).length = trimN (rs.map (nrm .f32)) rs.length := by simp; omega
  rw [← cx_takes] at Ht
  have hN := Lib.hid (show trimN (rs.map (nrm .f32)) rs.length = trimN (rs.map (nrm .f32)) rs.length from rfl)
  generalize hqs : rs.take (trimN (rs.map (nrm .f32)) rs.length) = qs at *
  clear hqs hv hN
  have T := Lib.hid (fun w1 h => trim_impl g 0 cap rs w1 h hn (by omega))
  generalize trimN (rs.map (nrm .f32)) rs.length = n at *
  subst hq
  cases hval : validF (qs.map (nrm .f32))
  · go_enter Try.func32, Try.ntmps32
    go_wp2_with (first | (go_at_call 46; go_must (refine (T.out _ (Hr.out.below (by (repeat' (first | (with_reducible exact Below.refl _ _) | (with_reducible assumption) | (with_reducible refine Below.alloc ?_ ?_ _) | (with_reducible refine Below.setCell ?_ ?_ _) | (with_reducible refine Below.drew ?_) | (with_reducible refine Below.via (by assumption) ?_ ?_) | go_size))))).mono ?_); rintro e w' ⟨rfl, rfl⟩) | (go_at_call 45; go_must (refine (clip_impl _ _ _ _ (by omega) (by omega)).mono ?_); rintro e w' ⟨rfl, rfl⟩) | (go_at_call 47; go_must (refine (valid_impl _ qs _ (Ht.out.rd.below (by (repeat' (first | (with_reducible exact Below.refl _ _) | (with_reducible assumption) | (with_reducible refine Below.alloc ?_ ?_ _) | (with_reducible refine Below.setCell ?_ ?_ _) | (with_reducible refine Below.drew ?_) | (with_reducible refine Below.via (by assumption) ?_ ?_) | go_size)))) (by omega) (by omega)).mono ?_); rintro e w' ⟨rfl, hb1⟩; obtain ⟨chb1, fhb1⟩ := bcell hb1; have zhb1 := hb1.size; (try simp only [World.size_alloc, World.size_setCell, World.size_drew] at zhb1); (try have lhb1 : w.heap.size < w'.heap.size := by omega); have x0 : w'.cell? ⟨w.heap.size, 0, none⟩ = some (.slice none 0 0) := by go_simp))
    (try simp only [Exit.inBlock, Exit.then]); refine bodyPost_ret (by simp [results, Try.results32, go_sem, *]; try rfl) rfl ?_
    exact ⟨_, [], rfl, rfl, .inl ⟨rfl, rfl⟩, by (repeat' (first | (with_reducible exact Below.refl _ _) | (with_reducible assumption) | (with_reducible refine Below.alloc ?_ ?_ _) | (with_reducible refine Below.setCell ?_ ?_ _) | (with_reducible refine Below.drew ?_) | (with_reducible refine Below.via (by assumption) ?_ ?_) | go_size))⟩
  · go_enter Try.func32, Try.ntmps32
    go_wp2_with (first | (go_at_call 46; go_must (refine (T.out _ (Hr.out.below (by (repeat' (first | (with_reducible exact Below.refl _ _) | (with_reducible assumption) | (with_reducible refine Below.alloc ?_ ?_ _) | (with_reducible refine Below.setCell ?_ ?_ _) | (with_reducible refine Below.drew ?_) | (with_reducible refine Below.via (by assumption) ?_ ?_) | go_size))))).mono ?_); rintro e w' ⟨rfl, rfl⟩) | (go_at_call 45; go_must (refine (clip_impl _ _ _ _ (by omega) (by omega)).mono ?_); rintro e w' ⟨rfl, rfl⟩) | (go_at_call 47; go_must (refine (valid_impl _ qs _ (Ht.out.rd.below (by (repeat' (first | (with_reducible exact Below.refl _ _) | (with_reducible assumption) | (with_reducible refine Below.alloc ?_ ?_ _) | (with_reducible refine Below.setCell ?_ ?_ _) | (with_reducible refine Below.drew ?_) | (with_reducible refine Below.via (by assumption) ?_ ?_) | go_size)))) (by omega) (by omega)).mono ?_); rintro e w' ⟨rfl, hb1⟩; obtain ⟨chb1, fhb1⟩ := bcell hb1; have zhb1 := hb1.size; (try simp only [World.size_alloc, World.size_setCell, World.size_drew] at zhb1); (try have lhb1 : w.heap.size < w'.heap.size := by omega); have x0 : w'.cell? ⟨w.heap.size, 0, none⟩ = some (.slice none 0 0) := by go_simp))
    (try simp only [Exit.inBlock, Exit.then]); refine bodyPost_ret (by simp [results, Try.results32, go_sem, *]; try rfl) rfl ?_
    exact ⟨_, qs, rfl, rfl, Ht.out.below (by (repeat' (first | (with_reducible exact Below.refl _ _) | (with_reducible assumption) | (with_reducible refine Below.alloc ?_ ?_ _) | (with_reducible refine Below.setCell ?_ ?_ _) | (with_reducible refine Below.drew ?_) | (with_reducible refine Below.via (by assumption) ?_ ?_) | go_size))), by (repeat' (first | (with_reducible exact Below.refl _ _) | (with_reducible assumption) | (with_reducible refine Below.alloc ?_ ?_ _) | (with_reducible refine Below.setCell ?_ ?_ _) | (with_reducible refine Below.drew ?_) | (with_reducible refine Below.via (by assumption) ?_ ?_) | go_size))⟩

set_option maxRecDepth 100000 in
set_option maxHeartbeats 400000 in
theorem give_spec (v : Value) (rs : List Nat) (w : World) (hv : RdV w v (cx rs)) (hn : rs ≠ []) (hl : rs.length ≤ 17) : Calls Try.prog 29 #[v] w (RetP (polyF (rs.map (nrm .f32))) w.heap.size w) := by
  have h0 : 0 < rs.length := List.length_pos_iff.2 hn
  have HT := Lib.hid (trimF_map rs)
  have t0 := trimN_pos (rs.map (nrm .f32)) h0
  have t1 := trimN_le (rs.map (nrm .f32)) rs.length
  have HP := Lib.hid (show polyF (rs.map (nrm .f32)) = if validF (trimF (rs.map (nrm .f32))) = true then (trimF (rs.map (nrm .f32)), true) else ([], false) from rfl)
  rw [HP.out, ← HT.out]
  clear HP HT
  rcases hv.openC with ⟨rfl, _⟩ | ⟨b, off, cap, rfl, hb, hcp, hc⟩
  · exact absurd rfl hn
  clear hc
  have Hr := Lib.hid hv
  have Ht := Lib.hid (hv.take (n := trimN (rs.map (nrm .f32)) rs.length) (c := cap) (by simpa using t1) (by omega) hcp.2)
  have hq : (rs.take (trimN (rs.map (nrm .f32)) rs.length)).length = trimN (rs.map (nrm .f32)) rs.length := by simp; omega
  rw [← cx_takes] at Ht
  generalize hqs : rs.take (trimN (rs.map (nrm .f32)) rs.length) = qs at *
  clear hqs hv
  have T := Lib.hid (fun w1 h => trim_spec b off cap rs w1 h hn (by omega))
  generalize trimN (rs.map (nrm .f32)) rs.length = n at *
  subst hq
  have hnq : cx qs ≠ [] := by rw [← List.length_pos_iff, cx_length]; exact t0
  cases hval : validF (qs.map (nrm .f32))
  · go_enter Try.func29, Try.ntmps29
    go_wp2_with (first | (go_at_call 42; go_must (refine (T.out _ (Hr.out.below (by (repeat' (first | (with_reducible exact Below.refl _ _) | (with_reducible assumption) | (with_reducible refine Below.alloc ?_ ?_ _) | (with_reducible refine Below.setCell ?_ ?_ _) | (with_reducible refine Below.drew ?_) | (with_reducible refine Below.via (by assumption) ?_ ?_) | go_size))))).mono ?_); rintro e w' ⟨rfl, rfl⟩) | (at_builtin; go_must (refine wpList_cloneV (.complex .f32 0 0) 8 infoC rfl (cx_one qs) (by decide) rfl _ _ rfl Try.underlying34 (Ht.out.below (by (repeat' (first | (with_reducible exact Below.refl _ _) | (with_reducible assumption) | (with_reducible refine Below.alloc ?_ ?_ _) | (with_reducible refine Below.setCell ?_ ?_ _) | (with_reducible refine Below.drew ?_) | (with_reducible refine Below.via (by assumption) ?_ ?_) | go_size)))) hnq (by simp; omega) rfl rfl (by simp) ?_; intro g1 cap1 w1 hg1 ho1 hb1; obtain ⟨chb1, fhb1⟩ := bcell hb1; have zhb1 := hb1.size; (try simp only [World.size_alloc, World.size_setCell, World.size_drew] at zhb1 hg1); have l0 : w.heap.size < w1.heap.size := (by omega); have x0 : w1.cell? ⟨w.heap.size, 0, none⟩ = some (.slice none 0 0) := (hb1.cell (p := ⟨w.heap.size, 0, none⟩) (by simp)).trans (World.cell?_alloc_new w #[.slice none 0 0] _ 0); have f0 : w1.frozen? ⟨w.heap.size, 0, none⟩ = false := (hb1.frozen (p := ⟨w.heap.size, 0, none⟩) (by simp)).trans (by go_simp); have Ho := Lib.hid ho1; rw [cx_length] at Ho ⊢; clear ho1 chb1 fhb1)) | (go_at_call 43; go_must (refine (is_spec _ _ qs _ (by go_simp) (Ho.out.rd.below (by (repeat' (first | (with_reducible exact Below.refl _ _) | (with_reducible assumption) | (with_reducible refine Below.alloc ?_ ?_ _) | (with_reducible refine Below.setCell ?_ ?_ _) | (with_reducible refine Below.drew ?_) | (with_reducible refine Below.via (by assumption) ?_ ?_) | go_size)))) (by omega) (by omega)).mono ?_); rintro e w' ⟨m, rfl, rfl⟩))
    (try simp only [Exit.inBlock, Exit.then]); refine bodyPost_ret (by simp [results, Try.results29, go_sem, *]; try rfl) rfl ?_
    exact ⟨_, [], rfl, rfl, .inl ⟨rfl, rfl⟩, by (repeat' (first | (with_reducible exact Below.refl _ _) | (with_reducible assumption) | (with_reducible refine Below.alloc ?_ ?_ _) | (with_reducible refine Below.setCell ?_ ?_ _) | (with_reducible refine below_drewN ?_ _) | (with_reducible refine Below.via (by assumption) ?_ ?_) | go_size))⟩
  · go_enter Try.func29, Try.ntmps29
    go_wp2_with (first | (go_at_call 42; go_must (refine (T.out _ (Hr.out.below (by (repeat' (first | (with_reducible exact Below.refl _ _) | (with_reducible assumption) | (with_reducible refine Below.alloc ?_ ?_ _) | (with_reducible refine Below.setCell ?_ ?_ _) | (with_reducible refine Below.drew ?_) | (with_reducible refine Below.via (by assumption) ?_ ?_) | go_size))))).mono ?_); rintro e w' ⟨rfl, rfl⟩) | (at_builtin; go_must (refine wpList_cloneV (.complex .f32 0 0) 8 infoC rfl (cx_one qs) (by decide) rfl _ _ rfl Try.underlying34 (Ht.out.below (by (repeat' (first | (with_reducible exact Below.refl _ _) | (with_reducible assumption) | (with_reducible refine Below.alloc ?_ ?_ _) | (with_reducible refine Below.setCell ?_ ?_ _) | (with_reducible refine Below.drew ?_) | (with_reducible refine Below.via (by assumption) ?_ ?_) | go_size)))) hnq (by simp; omega) rfl rfl (by simp) ?_; intro g1 cap1 w1 hg1 ho1 hb1; obtain ⟨chb1, fhb1⟩ := bcell hb1; have zhb1 := hb1.size; (try simp only [World.size_alloc, World.size_setCell, World.size_drew] at zhb1 hg1); have l0 : w.heap.size < w1.heap.size := (by omega); have x0 : w1.cell? ⟨w.heap.size, 0, none⟩ = some (.slice none 0 0) := (hb1.cell (p := ⟨w.heap.size, 0, none⟩) (by simp)).trans (World.cell?_alloc_new w #[.slice none 0 0] _ 0); have f0 : w1.frozen? ⟨w.heap.size, 0, none⟩ = false := (hb1.frozen (p := ⟨w.heap.size, 0, none⟩) (by simp)).trans (by go_simp); have Ho := Lib.hid ho1; rw [cx_length] at Ho ⊢; clear ho1 chb1 fhb1)) | (go_at_call 43; go_must (refine (is_spec _ _ qs _ (by go_simp) (Ho.out.rd.below (by (repeat' (first | (with_reducible exact Below.refl _ _) | (with_reducible assumption) | (with_reducible refine Below.alloc ?_ ?_ _) | (with_reducible refine Below.setCell ?_ ?_ _) | (with_reducible refine Below.drew ?_) | (with_reducible refine Below.via (by assumption) ?_ ?_) | go_size)))) (by omega) (by omega)).mono ?_); rintro e w' ⟨m, rfl, rfl⟩))
    (try simp only [Exit.inBlock, Exit.then]); refine bodyPost_ret (by simp [results, Try.results29, go_sem, *]; try rfl) rfl ?_
    refine ⟨_, qs, rfl, rfl, OwV.setOther (g := w.heap.size) (j := 0) ?_ (by right; simp [Value.ownBlock]; omega) _, by (repeat' (first | (with_reducible exact Below.refl _ _) | (with_reducible assumption) | (with_reducible refine Below.alloc ?_ ?_ _) | (with_reducible refine Below.setCell ?_ ?_ _) | (with_reducible refine below_drewN ?_ _) | (with_reducible refine Below.via (by assumption) ?_ ?_) | go_size))⟩
    exact (Ho.out.below ((Below.refl _ _).alloc (Nat.le_refl _) _)).mono (by simp)

end Go.Proofs.Ytfamcgibcnldlaa
