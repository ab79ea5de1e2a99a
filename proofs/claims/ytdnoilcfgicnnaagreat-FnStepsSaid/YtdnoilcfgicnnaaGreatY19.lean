/- How much a polynomial misses 0 at its roots, of the program and of the reference; the reference's polish of a root. Conditions: a polynomial with roots; misses of 0. -/
import Derived.Test.YtdnoilcfgicnnaaGreatY18
import Derived.Test.YtdnoilcfgicnnaaGreatY16
import Derived.Test.YtdnoilcfgicnnaaGreatY7
import Derived.Laws.BitsAllLaws
namespace Go.Proofs.YtdnoilcfgicnnaaGreat
set_option linter.unusedSimpArgs false
set_option linter.unusedVariables false
open Go Go.RowKit

theorem nrm_eq0 {a : Nat} (h : nrm .f32 a = 0) : a = 0 := by
  cases hn : isN .f32 a
  · rw [nrm_of_not hn] at h; exact h
  · rw [nrm_of_nan hn] at h; exact absurd h (by decide +kernel)
@[go_sem] theorem run_max00 {P : Program} (ts : Array TypeId) (t : TypeId) (w : World) : (Builtin.max_ ts t #[.float .f32 0, .float .f32 0]).run P w = .ok (.float .f32 0) w := by kernel_rfl
def allB (bs : Nat → Bool) : Nat → Bool | 0 => true | k + 1 => allB bs k && bs k
theorem allB_false {bs : Nat → Bool} {n i : Nat} (hi : i < n) (h : bs i = false) : allB bs n = false := by
  induction n with
  | zero => omega
  | succ n ih =>
    by_cases hin : i = n
    · subst hin; rw [allB, h, Bool.and_false]
    · rw [allB, ih (by omega), Bool.false_and]

set_option maxRecDepth 100000 in
set_option maxHeartbeats 400000 in
theorem can_spec (p : Nat) (v : Value) (rs : List C2) (z : C2) (w : World) (hp : w.cell? ⟨p, 0, none⟩ = some v) (hv : RdV w v (cx rs)) (h1 : 1 ≤ rs.length) (h2 : rs.length ≤ 17) (hr : rootedF (rs.map nc) = true) (hf : finC (nc z) = true) :
    Calls Tryz.prog 33 #[.pointer (some ⟨p, 0, none⟩), .complex .f32 z.1 z.2] w (RetB true w) := by
  have HR := Lib.hid hr
  have HF := Lib.hid hf
  have Hv := Lib.hid hv
  have Hp := Lib.hid hp
  clear hr hf hv hp
  go_enter Tryz.func33, Tryz.ntmps33
  go_wp2_with (first | (go_at_call 28; go_must (refine (rooted_spec p v rs _ Hp.out Hv.out h1 h2).mono ?_); rintro e w' ⟨m, rfl, rfl⟩; rw [HR.out]) | (go_at_call 54; go_must (refine (cfin1_spec z _).mono ?_); rintro e w' ⟨m, rfl, rfl⟩; rw [HF.out]))
  go_ret
  exact ⟨_, rfl, by first | rfl | (simp; rfl)⟩
set_option maxRecDepth 100000 in
set_option maxHeartbeats 400000 in
theorem times_spec (n : Int) (w : World) (h0 : 0 ≤ n) (h1 : n ≤ 64) : Calls Tryz.prog 34 #[.int .i64 n, .int .i64 0] w fun e w' => e = .returned (.bool true) ∧ w = w' := by
  have H := Lib.hid (show inB 0 n 64 = true by simp [inB]; omega)
  go_enter Tryz.func34, Tryz.ntmps34
  go_wp2_with (go_at_call 68; go_must (refine (in_spec n 0 64 _).mono ?_); rintro e w' ⟨rfl, rfl⟩; rw [H.out])
  go_ret
  exact ⟨rfl, rfl⟩

set_option maxRecDepth 100000 in
set_option maxHeartbeats 400000 in
theorem missAt_spec (v : Value) (rs : List C2) (z V : C2) (w : World) (hv : RdV w v (cx rs)) (h1 : 1 ≤ rs.length) (h2 : rs.length ≤ 17) (HM : RowKit.Hid (MsOk (rs.map nc) (nc z) V)) (hf : finC (nc z) = true) :
    Calls Tryz.prog 21 #[.agg #[v], .complex .f32 z.1 z.2] w (RetFB (missG (longF V) (missS (rs.map nc) (nc z) rs.length)) w) := by
  obtain ⟨ao, cap, rfl, _⟩ := hv.shape
  rw [cx_length] at hv ⊢
  have Hv := Lib.hid hv
  have HF := Lib.hid hf
  clear hv hf
  have P := Lib.hid (show (w.alloc (.cells #[.slice ao rs.length cap] 28)).cell? ⟨w.heap.size, 0, none⟩ = some (.slice ao rs.length cap) from World.cell?_alloc_new w #[.slice ao rs.length cap] 28 0)
  have HQ := Lib.hid (fun m => miss_spec w.heap.size (.slice ao rs.length cap) rs z V ((w.alloc (.cells #[.slice ao rs.length cap] 28)).drewN m) P.out (Hv.out.alloc _) h1 h2 HM)
  go_enter Tryz.func21, Tryz.ntmps21
  go_wp2_with (go_at_call 33; go_must (refine (can_spec w.heap.size _ rs z _ P.out (Hv.out.alloc _) h1 h2 HM.out.r HF.out).mono ?_); rintro e w' ⟨m, rfl, rfl⟩)
  (go_at_call 30; ((with_reducible refine (HQ.out _).mono ?_)))
  rintro e w' ⟨a, rfl, ha, hb⟩
  have Ha := Lib.hid ha
  have Hb := Lib.hid hb
  generalize missG (longF V) (missS (rs.map nc) (nc z) rs.length) = G at *
  clear ha hb
  go_wp2_with fail
  go_ret2
  exact ⟨_, rfl, Ha.out, ((below_drewN ((Below.refl _ _).alloc (Nat.le_refl _) _) _).trans (Hb.out.mono (by simp)))⟩

set_option maxRecDepth 100000 in
set_option maxHeartbeats 400000 in
theorem polishRoot_spec (v : Value) (rs : List C2) (z : C2) (n : Nat) (w : World) (hv : RdV w v (cx rs)) (h1 : 1 ≤ rs.length) (h2 : rs.length ≤ 17)
    (hroot : rootedF (rs.map nc) = true) (hfin : finC (nc z) = true) (hn : n ≤ 64) (Hs : RowKit.Hid (safePolish (rs.map nc) n (nc z))) :
    Calls Tryz.prog 12 #[.agg #[v], .complex .f32 z.1 z.2, .int .i64 n] w (RetXB (polishF (rs.map nc) n (nc z)) w) := by
  obtain ⟨ao, cap, rfl, _⟩ := hv.shape
  rw [cx_length] at hv ⊢
  have Hv := Lib.hid hv
  have HR := Lib.hid hroot
  have HF := Lib.hid hfin
  clear hv hroot hfin
  have P := Lib.hid (show (w.alloc (.cells #[.slice ao rs.length cap] 28)).cell? ⟨w.heap.size, 0, none⟩ = some (.slice ao rs.length cap) from World.cell?_alloc_new w #[.slice ao rs.length cap] 28 0)
  have HQ := Lib.hid (fun m => polish_spec w.heap.size (.slice ao rs.length cap) rs z n ((w.alloc (.cells #[.slice ao rs.length cap] 28)).drewN m) P.out (Hv.out.alloc _) h1 h2 HR.out HF.out hn Hs)
  go_enter Tryz.func12, Tryz.ntmps12
  go_wp2_with (first | (go_at_call 33; go_must (refine (can_spec w.heap.size _ rs z _ P.out (Hv.out.alloc _) h1 h2 HR.out HF.out).mono ?_); rintro e w' ⟨m, rfl, rfl⟩) | (go_at_call 34; go_must (refine (times_spec n _ (by omega) (by omega)).mono ?_); rintro e w' ⟨rfl, rfl⟩))
  (go_at_call 35; ((with_reducible refine (HQ.out _).mono ?_)))
  rintro e w' ⟨a, b, rfl, ha, hb', hb⟩
  have Ha := Lib.hid ha
  have Hb' := Lib.hid hb'
  have Hb := Lib.hid hb
  generalize polishF (rs.map nc) n (nc z) = G at *
  clear ha hb hb'
  go_wp2_with fail
  go_ret2
  exact ⟨_, _, rfl, Ha.out, Hb'.out, ((below_drewN ((Below.refl _ _).alloc (Nat.le_refl _) _) _).trans (Hb.out.mono (by simp)))⟩
set_option maxRecDepth 100000 in
set_option maxHeartbeats 1000000 in
theorem missRoots_impl (v u : Value) (rs ls : List C2) (V : Nat → C2) (bs : Nat → Bool) (w : World) (hv : RdV w v (cx rs)) (hu : RdV w u (cx ls)) (h1 : 1 ≤ rs.length) (h2 : rs.length ≤ 17) (h3 : 1 ≤ ls.length) (h4 : ls.length ≤ 16)
    (hr : rootedF (rs.map nc) = true) (hl : allFinC ls = true) (HM : RowKit.Hid (∀ i, i < ls.length → MsOk (rs.map nc) (nc (ls.getD i (0, 0))) (V i) ∧ missG (longF (V i)) (missS (rs.map nc) (nc (ls.getD i (0, 0))) rs.length) = (0, bs i))) :
    Calls Tryz.prog 8 #[.agg #[v], u] w (RetFB (0, allB bs ls.length) w) := by
  obtain ⟨ao, cap, rfl, _⟩ := hv.shape
  rw [cx_length] at hv ⊢
  have n0 := nrm0
  have HU := Lib.hid hu
  rcases hu.openC with ⟨rfl, _⟩ | ⟨b, off, cap2, rfl, hb, hcp, hc⟩
  · simp at h3
  have Hc := Lib.hid (show ∀ i, i < ls.length → w.cell? ⟨b, off + i, none⟩ = some (.complex .f32 (ls.getD i (0, 0)).1 (ls.getD i (0, 0)).2) from fun i hi => by
    rw [hc i hi]; simp [List.getD, hi])
  have Hv := Lib.hid hv
  have HR := Lib.hid hr
  have HL := Lib.hid hl
  clear hc hv hcp hu hr hl
  have P := Lib.hid (show (w.alloc (.cells #[.slice ao rs.length cap] 28)).cell? ⟨w.heap.size, 0, none⟩ = some (.slice ao rs.length cap) from World.cell?_alloc_new w #[.slice ao rs.length cap] 28 0)
  go_enter Tryz.func8, Tryz.ntmps8
  go_wp2_with (first | (go_at_call 27; go_must (refine (rooted_impl _ rs _ (Hv.out.alloc _) h1 h2).mono ?_); rintro e w' ⟨rfl, hb1⟩; obtain ⟨chhb1, fhhb1⟩ := bcell hb1; have zhhb1 := hb1.size; (try simp only [World.size_alloc, World.size_setCell, World.size_drew] at zhhb1); (try have lhhb1 : w.heap.size < w'.heap.size := by omega); rw [HR.out]) | (go_at_call 10; go_must (refine (areRoots_impl _ ls _ (HU.out.below (by (repeat' (first | (with_reducible exact Below.refl _ _) | (with_reducible assumption) | (with_reducible refine Below.alloc ?_ ?_ _) | (with_reducible refine Below.setCell ?_ ?_ _) | (with_reducible refine Below.drew ?_) | (with_reducible refine Below.via (by assumption) ?_ ?_) | go_size)))) h3 h4).mono ?_); rintro e w' ⟨rfl, hb2⟩; obtain ⟨chhb2, fhhb2⟩ := bcell hb2; have zhhb2 := hb2.size; (try simp only [World.size_alloc, World.size_setCell, World.size_drew] at zhhb2); (try have lhhb2 : w.heap.size < w'.heap.size := by omega); rw [HL.out]))
  have HB0 := Lib.hid (show Below (w.alloc (.cells #[.slice ao rs.length cap] 28)).heap.size (w.alloc (.cells #[.slice ao rs.length cap] 28)) w' from by (repeat' (first | (with_reducible exact Below.refl _ _) | (with_reducible assumption) | (with_reducible refine Below.alloc ?_ ?_ _) | (with_reducible refine Below.setCell ?_ ?_ _) | (with_reducible refine below_drewN ?_ _) | (with_reducible refine Below.via (by assumption) ?_ ?_) | go_size)))
  clear chhb1 fhhb1 chhb2 fhhb2 hb1 hb2
  generalize hWA : (w.alloc (.cells #[.slice ao rs.length cap] 28)) = wa at *
  have Hwa := Lib.hid (show Below w.heap.size w wa from by rw [← hWA]; exact (Below.refl _ _).alloc (Nat.le_refl _) _)
  have hla : w.heap.size < wa.heap.size := by rw [← hWA]; simp
  have HvA := Lib.hid (show RdV wa _ _ from Hv.out.below Hwa.out)
  go_loopw [6, 21] (fun ov iv wr => ∃ (k : Nat), k ≤ ls.length ∧ iv = .int .i64 k ∧ ov = .float .f32 0 ∧ allB bs k = true ∧ Below wa.heap.size wa wr) (fun _ iv _ => ls.length - (intOf iv).toNat)
  case atStart => exact ⟨0, Nat.zero_le _, rfl, rfl, rfl, HB0.out⟩
  case round =>
    obtain ⟨k, hk, rfl, rfl, hall, hbel⟩ := hrel
    have hsz := hbel.size
    have HA := Lib.hid hall
    have Hbel := Lib.hid hbel
    have Hbw := Lib.hid (show Below w.heap.size w wr from Hwa.out.trans (hbel.mono (Nat.le_of_lt hla)))
    have cb : wr.cell? ⟨w.heap.size, 0, none⟩ = some (.slice ao rs.length cap) := (hbel.cell (p := ⟨w.heap.size, 0, none⟩) hla).trans P.out
    clear hall hbel
    by_cases hlt : k < ls.length
    · have c1 := (Hbw.out.cell (p := ⟨b, off + k, none⟩) hb).trans (Hc.out k hlt)
      obtain ⟨M1, M2⟩ := HM.out k hlt
      have HM1 := Lib.hid M1
      have HM2 := Lib.hid M2
      have j0 : (0 : Int) ≤ (k : Int) := by omega
      have j1 : (k : Int) < (ls.length : Int) := by omega
      clear M1 M2
      generalize ls.getD k (0, 0) = x at *
      obtain ⟨x1, x2⟩ := x
      have HQ := Lib.hid (missAt_impl (.slice ao rs.length cap) rs (x1, x2) (V k) wr (HvA.out.below Hbel.out) h1 h2 (Lib.hid HM1.out))
      go_wp2_with fail
      (go_at_call 20; ((with_reducible refine HQ.out.mono ?_)))
      rw [HM2.out]
      rintro e w' ⟨a, rfl, ha, hb5⟩
      obtain rfl : a = 0 := nrm_eq0 ha
      have Hb5 := Lib.hid (show Below wa.heap.size wa w' from Hbel.out.trans (hb5.mono hsz))
      clear hb5 ha
      cases hbk : bs k
      · have Hall := Lib.hid (show allB bs ls.length = false from allB_false hlt hbk)
        go_wp2_with fail
        go_ret2
        rw [Hall.out]
        exact ⟨_, rfl, n0, Hwa.out.trans (Hb5.out.mono (Nat.le_of_lt hla))⟩
      · go_wp2_with fail
        go_roundw
        case rel => exact ⟨k + 1, by omega, by go_num, rfl, by rw [allB, HA.out, hbk]; rfl, Hb5.out⟩
        case measure => simp [intOf]; omega
    · obtain rfl : k = ls.length := by omega
      go_wp2_with fail
      go_ret2
      rw [HA.out]
      exact ⟨_, rfl, n0, Hbw.out⟩
set_option maxRecDepth 100000 in
set_option maxHeartbeats 1000000 in
theorem missRoots_spec (v u : Value) (rs ls : List C2) (V : Nat → C2) (bs : Nat → Bool) (w : World) (hv : RdV w v (cx rs)) (hu : RdV w u (cx ls)) (h1 : 1 ≤ rs.length) (h2 : rs.length ≤ 17) (h3 : 1 ≤ ls.length) (h4 : ls.length ≤ 16)
    (hr : rootedF (rs.map nc) = true) (hl : allFinC ls = true) (HM : RowKit.Hid (∀ i, i < ls.length → MsOk (rs.map nc) (nc (ls.getD i (0, 0))) (V i) ∧ missG (longF (V i)) (missS (rs.map nc) (nc (ls.getD i (0, 0))) rs.length) = (0, bs i))) :
    Calls Tryz.prog 9 #[.agg #[v], u] w (RetFB (0, allB bs ls.length) w) := by
  obtain ⟨ao, cap, rfl, _⟩ := hv.shape
  rw [cx_length] at hv ⊢
  have n0 := nrm0
  have HU := Lib.hid hu
  rcases hu.openC with ⟨rfl, _⟩ | ⟨b, off, cap2, rfl, hb, hcp, hc⟩
  · simp at h3
  have Hc := Lib.hid (show ∀ i, i < ls.length → w.cell? ⟨b, off + i, none⟩ = some (.complex .f32 (ls.getD i (0, 0)).1 (ls.getD i (0, 0)).2) from fun i hi => by
    rw [hc i hi]; simp [List.getD, hi])
  have Hv := Lib.hid hv
  have HR := Lib.hid hr
  have HL := Lib.hid hl
  clear hc hv hcp hu hr hl
  have P := Lib.hid (show (w.alloc (.cells #[.slice ao rs.length cap] 28)).cell? ⟨w.heap.size, 0, none⟩ = some (.slice ao rs.length cap) from World.cell?_alloc_new w #[.slice ao rs.length cap] 28 0)
  go_enter Tryz.func9, Tryz.ntmps9
  go_wp2_with (first | (go_at_call 28; go_must (refine (rooted_spec w.heap.size _ rs _ P.out (Hv.out.alloc _) h1 h2).mono ?_); rintro e w' ⟨m1, rfl, rfl⟩; rw [HR.out]) | (go_at_call 29; go_must (refine (list_spec _ ls _ (HU.out.below (by (repeat' (first | (with_reducible exact Below.refl _ _) | (with_reducible assumption) | (with_reducible refine Below.alloc ?_ ?_ _) | (with_reducible refine Below.setCell ?_ ?_ _) | (with_reducible refine below_drewN ?_ _) | (with_reducible refine Below.via (by assumption) ?_ ?_) | go_size)))) h3 h4).mono ?_); rintro e w' ⟨m2, rfl, rfl⟩; rw [HL.out]))
  have HB0 := Lib.hid (fun m => show Below (w.alloc (.cells #[.slice ao rs.length cap] 28)).heap.size (w.alloc (.cells #[.slice ao rs.length cap] 28)) ((w.alloc (.cells #[.slice ao rs.length cap] 28)).drewN m) from below_drewN (Below.refl _ _) m)
  generalize hWA : (w.alloc (.cells #[.slice ao rs.length cap] 28)) = wa at *
  have Hwa := Lib.hid (show Below w.heap.size w wa from by rw [← hWA]; exact (Below.refl _ _).alloc (Nat.le_refl _) _)
  have hla : w.heap.size < wa.heap.size := by rw [← hWA]; simp
  have HvA := Lib.hid (show RdV wa _ _ from Hv.out.below Hwa.out)
  go_loopw [6, 19] (fun ov iv wr => ∃ (k : Nat), k ≤ ls.length ∧ iv = .int .i64 k ∧ ov = .float .f32 0 ∧ allB bs k = true ∧ Below wa.heap.size wa wr) (fun _ iv _ => ls.length - (intOf iv).toNat)
  case atStart => exact ⟨0, Nat.zero_le _, rfl, rfl, rfl, HB0.out _⟩
  case round =>
    obtain ⟨k, hk, rfl, rfl, hall, hbel⟩ := hrel
    have hsz := hbel.size
    have HA := Lib.hid hall
    have Hbel := Lib.hid hbel
    have Hbw := Lib.hid (show Below w.heap.size w wr from Hwa.out.trans (hbel.mono (Nat.le_of_lt hla)))
    have cb : wr.cell? ⟨w.heap.size, 0, none⟩ = some (.slice ao rs.length cap) := (hbel.cell (p := ⟨w.heap.size, 0, none⟩) hla).trans P.out
    clear hall hbel
    by_cases hlt : k < ls.length
    · have c1 := (Hbw.out.cell (p := ⟨b, off + k, none⟩) hb).trans (Hc.out k hlt)
      obtain ⟨M1, M2⟩ := HM.out k hlt
      have HM1 := Lib.hid M1
      have HM2 := Lib.hid M2
      have j0 : (0 : Int) ≤ (k : Int) := by omega
      have j1 : (k : Int) < (ls.length : Int) := by omega
      clear M1 M2
      generalize ls.getD k (0, 0) = x at *
      obtain ⟨x1, x2⟩ := x
      have HQ := Lib.hid (miss_spec w.heap.size (.slice ao rs.length cap) rs (x1, x2) (V k) wr cb (HvA.out.below Hbel.out) h1 h2 (Lib.hid HM1.out))
      go_wp2_with fail
      (go_at_call 30; ((with_reducible refine HQ.out.mono ?_)))
      rw [HM2.out]
      rintro e w' ⟨a, rfl, ha, hb5⟩
      obtain rfl : a = 0 := nrm_eq0 ha
      have Hb5 := Lib.hid (show Below wa.heap.size wa w' from Hbel.out.trans (hb5.mono hsz))
      clear hb5 ha
      cases hbk : bs k
      · have Hall := Lib.hid (show allB bs ls.length = false from allB_false hlt hbk)
        go_wp2_with fail
        go_ret2
        rw [Hall.out]
        exact ⟨_, rfl, n0, Hwa.out.trans (Hb5.out.mono (Nat.le_of_lt hla))⟩
      · go_wp2_with fail
        go_roundw
        case rel => exact ⟨k + 1, by omega, by go_num, rfl, by rw [allB, HA.out, hbk]; rfl, Hb5.out⟩
        case measure => simp [intOf]; omega
    · obtain rfl : k = ls.length := by omega
      go_wp2_with fail
      go_ret2
      rw [HA.out]
      exact ⟨_, rfl, n0, Hbw.out⟩
end Go.Proofs.YtdnoilcfgicnnaaGreat

/- Intervals of float64 operations. Conditions: numbers below 64. -/
namespace Go.Proofs.YtdnoilcfgicnnaaGreat
open Go
set_option linter.unusedSimpArgs false
set_option linter.unusedVariables false

theorem nn_write {k : FloatKind} {d : Ieee.Datum} (hd : isNum d = true) (ht : A (valD d) < tK k) (h0 : 0 ≤ valD d) : 0 ≤ vN k (nrm k (k.encode d)) := by
  obtain ⟨s, m, e, rfl⟩ := isNum_ex hd
  obtain ⟨h1, h2, h3, _⟩ := write_ok k (.number s m e) rfl ht
  rw [fN_nrm h1]
  cases s
  · obtain ⟨M, P, h⟩ := write_num (k := k) (s := false) (m := m) (e := e) (by rw [A_val] at ht; exact ht)
    unfold vN
    rw [h]
    exact Rat.mul_nonneg (by exact_mod_cast Nat.zero_le M) (Rat.le_of_lt (p2_pos P))
  · have hm : (0 : Rat) ≤ (m : Rat) * p2 e := Rat.mul_nonneg (by exact_mod_cast Nat.zero_le m) (Rat.le_of_lt (p2_pos e))
    have hz : valD (.number true m e) = 0 := by
      have : valD (.number true m e) = -((m : Rat) * p2 e) := rfl
      rw [this] at h0 ⊢; grind
    have : vN k (k.encode (.number true m e)) = valD (.number true m e) := h3 0 0 (by rw [hz, A_zero, show ((0 : Nat) : Rat) = 0 from rfl]; grind) (by cases k <;> decide) (by cases k <;> decide)
    rw [this, hz]
    exact Rat.le_refl
theorem nn_add {x y : Nat} (hx : fN .f64 x = true) (hy : fN .f64 y = true) (h0 : 0 ≤ vN .f64 x + vN .f64 y) (ht : A (vN .f64 x + vN .f64 y) < p2 1023) : 0 ≤ vN .f64 (fop .add .f64 x y) := by
  obtain ⟨d, h1, h2, h3⟩ := sum_val hx hy
  have hv : vN .f64 x + vN .f64 y = valD d := h3.symm
  have hf : fop .add .f64 x y = nrm .f64 (FloatKind.f64.encode d) := by
    unfold fop floatBits Ieee.Format.add
    dsimp only
    rw [show (FloatKind.f64.format.read x).sum (FloatKind.f64.format.read y) = some d from h1]
    rfl
  rw [hf]
  rw [hv] at h0 ht
  exact nn_write h2 ht h0
theorem nn_sub {x y : Nat} (hx : fN .f64 x = true) (hy : fN .f64 y = true) (h0 : 0 ≤ vN .f64 x - vN .f64 y) (ht : A (vN .f64 x - vN .f64 y) < p2 1023) : 0 ≤ vN .f64 (fop .sub .f64 x y) := by
  obtain ⟨n1, n2⟩ := opposite_val (a := FloatKind.f64.decode y) hy
  obtain ⟨d, h1, h2, h3⟩ := sum_val (a := FloatKind.f64.decode x) (b := (FloatKind.f64.decode y).opposite) hx n1
  have hv : vN .f64 x - vN .f64 y = valD d := by rw [h3, n2]; unfold vN; grind
  have hf : fop .sub .f64 x y = nrm .f64 (FloatKind.f64.encode d) := by
    unfold fop floatBits Ieee.Format.sub
    dsimp only
    rw [show (FloatKind.f64.format.read x).sum (FloatKind.f64.format.read y).opposite = some d from h1]
    rfl
  rw [hf]
  rw [hv] at h0 ht
  exact nn_write h2 ht h0
theorem nn_mul {x y : Nat} (hx : fN .f64 x = true) (hy : fN .f64 y = true) (h0 : 0 ≤ vN .f64 x * vN .f64 y) (ht : A (vN .f64 x * vN .f64 y) < p2 1023) : 0 ≤ vN .f64 (fop .mul .f64 x y) := by
  obtain ⟨d, h1, h2, h3⟩ := product_val (a := FloatKind.f64.decode x) (b := FloatKind.f64.decode y) hx hy
  have hv : vN .f64 x * vN .f64 y = valD d := h3.symm
  have hf : fop .mul .f64 x y = nrm .f64 (FloatKind.f64.encode d) := by
    unfold fop floatBits Ieee.Format.mul
    dsimp only
    rw [show (FloatKind.f64.format.read x).product (FloatKind.f64.format.read y) = some d from h1]
    rfl
  rw [hf]
  rw [hv] at h0 ht
  exact nn_write h2 ht h0

theorem nn_quo {x y : Nat} {q : Rat} (hx : fN .f64 x = true) (hy : fN .f64 y = true) (h0 : 0 ≤ vN .f64 x) (hp : 0 < vN .f64 y) (hq : q * vN .f64 y = vN .f64 x) (hA : A q ≤ 64) : 0 ≤ vN .f64 (fop .quo .f64 x y) := by
  have yn : vN .f64 y ≠ 0 := by intro h; rw [h] at hp; exact absurd hp (by decide)
  obtain ⟨d, h1, h2, h3⟩ := quotient_val (a := FloatKind.f64.decode x) (b := FloatKind.f64.decode y) hx hy yn
  have hf : fop .quo .f64 x y = nrm .f64 (FloatKind.f64.encode d) := by
    unfold fop floatBits Ieee.Format.div
    dsimp only
    rw [show Ieee.Datum.quotient (FloatKind.f64.format.fractionBits + 2) (FloatKind.f64.format.read x) (FloatKind.f64.format.read y) = some d from h1]
    rfl
  have h3' : A (valD d * vN .f64 y - vN .f64 x) ≤ p2 (-54) * A (vN .f64 x) := h3
  rw [A_of_nonneg h0] at h3'
  have k1 := le_A (valD d * vN .f64 y - vN .f64 x)
  have k2 : p2 (-54) * vN .f64 x ≤ 1 / 2 * vN .f64 x := Rat.mul_le_mul_of_nonneg_right (by decide +kernel) h0
  have d0 : 0 ≤ valD d := lcancel_le hp (by grind)
  have d1 : valD d ≤ 2 * q := lcancel_le hp (by rw [Rat.mul_assoc, hq]; grind)
  have q64 := le_A q
  rw [hf]
  exact nn_write h2 (by rw [A_of_nonneg d0]; exact lt_of_p2 (a := 7) (Rat.le_trans (show valD d ≤ 128 by grind) (by decide +kernel)) (by decide)) d0
/-- A word that is a number from a to b. -/
def In (x : Nat) (a b : Rat) : Prop := fN .f64 (nrm .f64 x) = true ∧ a ≤ vN .f64 (nrm .f64 x) ∧ vN .f64 (nrm .f64 x) ≤ b
theorem In.mono {x : Nat} {a b c d : Rat} (h : In x a b) (h1 : c ≤ a) (h2 : b ≤ d) : In x c d := ⟨h.1, Rat.le_trans h1 h.2.1, Rat.le_trans h.2.2 h2⟩
def e0 : Rat := 1 / 1099511627776
theorem res_e0 {r : Nat} {q : Rat} (h : Res .f64 r q) (hq : A q ≤ 64) : A (vN .f64 r - q) ≤ e0 := by
  have h1 : A (vN .f64 r - q) ≤ p2 (-53) * A q + p2 (-1075) := h.2.1
  have h2 := Rat.mul_le_mul_of_nonneg_left hq (Rat.le_of_lt (p2_pos (-53)))
  have h3 : p2 (-53) * 64 + p2 (-1075) ≤ e0 := by decide +kernel
  exact Rat.le_trans h1 (Rat.le_trans (by generalize p2 (-53) = u at *; generalize p2 (-1075) = v at *; clear h3; grind) h3)
theorem l64 {x : Rat} (h : A x ≤ 64) : A x < p2 1023 := lt_of_p2 (a := 6) (Rat.le_trans h (by decide +kernel)) (by decide)
theorem in_of {r X : Nat} {lo hi : Rat} (h : nrm .f64 r = X) (h1 : fN .f64 X = true) (h2 : lo ≤ vN .f64 X) (h3 : vN .f64 X ≤ hi) : In r lo hi := by unfold In; rw [h]; exact ⟨h1, h2, h3⟩
theorem in_add {x y r : Nat} {a b c d lo hi : Rat} (hx : In x a b) (hy : In y c d) (hr : nrm .f64 r = fop .add .f64 (nrm .f64 x) (nrm .f64 y)) (h1 : -64 ≤ a + c) (h2 : b + d ≤ 64) (hlo : lo ≤ a + c - e0) (hhi : b + d + e0 ≤ hi) : In r lo hi := by
  have hA : A (vN .f64 (nrm .f64 x) + vN .f64 (nrm .f64 y)) ≤ 64 := A_le.2 ⟨by have := hx.2; have := hy.2; grind, by have := hx.2; have := hy.2; grind⟩
  have R := fop_add_res (k := .f64) hx.1 hy.1 (l64 hA)
  have e := le_A (vN .f64 (fop .add .f64 (nrm .f64 x) (nrm .f64 y)) - (vN .f64 (nrm .f64 x) + vN .f64 (nrm .f64 y)))
  have e' := res_e0 R hA
  have := hx.2; have := hy.2
  exact in_of hr R.1 (by grind) (by grind)
theorem in_sub {x y r : Nat} {a b c d lo hi : Rat} (hx : In x a b) (hy : In y c d) (hr : nrm .f64 r = fop .sub .f64 (nrm .f64 x) (nrm .f64 y)) (h1 : -64 ≤ a - d) (h2 : b - c ≤ 64) (hlo : lo ≤ a - d - e0) (hhi : b - c + e0 ≤ hi) : In r lo hi := by
  have hA : A (vN .f64 (nrm .f64 x) - vN .f64 (nrm .f64 y)) ≤ 64 := A_le.2 ⟨by have := hx.2; have := hy.2; grind, by have := hx.2; have := hy.2; grind⟩
  have R := fop_sub_res (k := .f64) hx.1 hy.1 (l64 hA)
  have e := le_A (vN .f64 (fop .sub .f64 (nrm .f64 x) (nrm .f64 y)) - (vN .f64 (nrm .f64 x) - vN .f64 (nrm .f64 y)))
  have e' := res_e0 R hA
  have := hx.2; have := hy.2
  exact in_of hr R.1 (by grind) (by grind)
/-- A difference that is not below 0. -/
theorem in_sub0 {x y r : Nat} {a b c d hi : Rat} (hx : In x a b) (hy : In y c d) (hr : nrm .f64 r = fop .sub .f64 (nrm .f64 x) (nrm .f64 y)) (h0 : d ≤ a) (h2 : b - c ≤ 64) (hhi : b - c + e0 ≤ hi) : In r 0 hi := by
  have hA : A (vN .f64 (nrm .f64 x) - vN .f64 (nrm .f64 y)) ≤ 64 := A_le.2 ⟨by have := hx.2; have := hy.2; grind, by have := hx.2; have := hy.2; grind⟩
  have R := fop_sub_res (k := .f64) hx.1 hy.1 (l64 hA)
  have e := le_A (vN .f64 (fop .sub .f64 (nrm .f64 x) (nrm .f64 y)) - (vN .f64 (nrm .f64 x) - vN .f64 (nrm .f64 y)))
  have e' := res_e0 R hA
  have := hx.2; have := hy.2
  exact in_of hr R.1 (nn_sub hx.1 hy.1 (by grind) (l64 hA)) (by grind)
/-- A product of numbers that are not below 0. -/
theorem in_mul {x y r : Nat} {a b c d lo hi : Rat} (hx : In x a b) (hy : In y c d) (hr : nrm .f64 r = fop .mul .f64 (nrm .f64 x) (nrm .f64 y)) (ha : 0 ≤ a) (hc : 0 ≤ c) (h2 : b * d ≤ 64) (hlo : lo ≤ a * c - e0 ∨ lo = 0) (hhi : b * d + e0 ≤ hi) : In r lo hi := by
  have m1 : a * c ≤ vN .f64 (nrm .f64 x) * vN .f64 (nrm .f64 y) := mul_le hx.2.1 hy.2.1 hc (Rat.le_trans ha hx.2.1)
  have m2 : vN .f64 (nrm .f64 x) * vN .f64 (nrm .f64 y) ≤ b * d := mul_le hx.2.2 hy.2.2 (Rat.le_trans hc hy.2.1) (Rat.le_trans ha (Rat.le_trans hx.2.1 hx.2.2))
  have m0 : 0 ≤ a * c := Rat.mul_nonneg ha hc
  have hA : A (vN .f64 (nrm .f64 x) * vN .f64 (nrm .f64 y)) ≤ 64 := A_le.2 ⟨by grind, by grind⟩
  have R := fop_mul_res (k := .f64) hx.1 hy.1 (l64 hA)
  have e := le_A (vN .f64 (fop .mul .f64 (nrm .f64 x) (nrm .f64 y)) - (vN .f64 (nrm .f64 x) * vN .f64 (nrm .f64 y)))
  have e' := res_e0 R hA
  refine in_of hr R.1 ?_ (by grind)
  rcases hlo with h | h
  · grind
  · rw [h]; exact nn_mul hx.1 hy.1 (by grind) (l64 hA)
/-- A quotient by what is above 0. -/
theorem in_quo {x y r : Nat} {a b c d lo hi : Rat} (hx : In x a b) (hy : In y c d) (hr : nrm .f64 r = fop .quo .f64 (nrm .f64 x) (nrm .f64 y)) (ha : 0 ≤ a) (hc : 0 < c) (hlo : (lo + e0) * d ≤ a ∨ lo = 0) (hlo0 : 0 ≤ lo) (hhi : b ≤ (hi - e0) * c) (hhi0 : e0 ≤ hi) (h64 : hi ≤ 64) : In r lo hi := by
  have y0 : 0 < vN .f64 (nrm .f64 y) := by have := hy.2.1; grind
  have yn : vN .f64 (nrm .f64 y) ≠ 0 := by intro h; rw [h] at y0; exact absurd y0 (by decide)
  obtain ⟨q, hq⟩ : ∃ q : Rat, q * vN .f64 (nrm .f64 y) = vN .f64 (nrm .f64 x) := ⟨vN .f64 (nrm .f64 x) * (vN .f64 (nrm .f64 y))⁻¹, by rw [Rat.mul_assoc, Rat.inv_mul_cancel _ yn, Rat.mul_one]⟩
  have q1 : q ≤ hi - e0 := lcancel_le y0 (by
    rw [hq]
    have := Rat.mul_le_mul_of_nonneg_left hy.2.1 (show 0 ≤ hi - e0 by grind)
    have := hx.2.2
    grind)
  have q0 : 0 ≤ q := lcancel_le y0 (by
    rw [hq]
    have := hx.2.1
    grind)
  have ep : (0 : Rat) ≤ e0 := by decide +kernel
  have hA : A q ≤ 64 := A_le.2 ⟨by grind, by grind⟩
  obtain ⟨f1, f2⟩ := fop_quo_ok hx.1 hy.1 yn hq (lt_of_p2 (a := 6) (Rat.le_trans hA (by decide +kernel)) (by decide))
  have f3 : A (vN .f64 (fop .quo .f64 (nrm .f64 x) (nrm .f64 y)) - q) ≤ e0 := by
    have h2 := Rat.mul_le_mul_of_nonneg_left hA (Rat.le_of_lt (p2_pos (-52)))
    have h3 : p2 (-52) * 64 + p2 (-1075) ≤ e0 := by decide +kernel
    exact Rat.le_trans f2 (Rat.le_trans (by generalize p2 (-52) = u at *; generalize p2 (-1075) = v at *; clear h3; grind) h3)
  have e := le_A (vN .f64 (fop .quo .f64 (nrm .f64 x) (nrm .f64 y)) - q)
  refine in_of hr f1 ?_ (by grind)
  rcases hlo with h | h
  · have q2 : lo + e0 ≤ q := lcancel_le y0 (by
      rw [hq]
      have := Rat.mul_le_mul_of_nonneg_left hy.2.2 (show 0 ≤ lo + e0 by grind)
      have := hx.2.1
      grind)
    grind
  · rw [h]; exact nn_quo hx.1 hy.1 (Rat.le_trans ha hx.2.1) y0 hq hA
theorem in_const {x : Nat} {a b : Rat} (h1 : fN .f64 x = true) (h2 : a ≤ vN .f64 x) (h3 : vN .f64 x ≤ b) : In x a b := by unfold In; rw [fN_nrm h1]; exact ⟨h1, h2, h3⟩
/-- A root. -/
theorem in_sqrt {x r : Nat} {a b lo hi : Rat} (hx : In x a b) (hr : nrm .f64 r = sqF (nrm .f64 x)) (ha : 0 ≤ a) (hb : b ≤ 64) (hlo : p2 (-60) ≤ lo) (hlo2 : lo * lo ≤ a) (hhi : p2 (-60) ≤ hi) (hhi2 : b ≤ hi * hi) : In r (lo * (1 - p2 (-40))) (hi * (1 + p2 (-40))) := by
  have v0 : 0 ≤ vN .f64 (nrm .f64 x) := Rat.le_trans ha hx.2.1
  have v90 : vN .f64 (nrm .f64 x) ≤ p2 90 := Rat.le_trans hx.2.2 (Rat.le_trans hb (by decide +kernel))
  exact in_of hr (sq_val hx.1 v0 v90).1 (sq_ge hx.1 v0 v90 hlo (Rat.le_trans hlo2 hx.2.1)) (sq_le hx.1 v0 v90 hhi (Rat.le_trans hx.2.2 hhi2))
/-- Comparisons. -/
theorem in_lss {x y : Nat} {a b c d : Rat} (hx : In x a b) (hy : In y c d) : (b < c → fcmp .lss .f64 (nrm .f64 x) (nrm .f64 y) = true) ∧ (d ≤ a → fcmp .lss .f64 (nrm .f64 x) (nrm .f64 y) = false) := by
  rw [cmp_lss hx.1 hy.1]
  have := hx.2; have := hy.2
  constructor
  · intro h; simp only [decide_eq_true_eq]; grind
  · intro h; simp only [decide_eq_false_iff_not]; grind
theorem in_geq {x y : Nat} {a b c d : Rat} (hx : In x a b) (hy : In y c d) : (b < c → fcmp .geq .f64 (nrm .f64 x) (nrm .f64 y) = false) ∧ (d ≤ a → fcmp .geq .f64 (nrm .f64 x) (nrm .f64 y) = true) := by
  rw [cmp_geq hx.1 hy.1]
  obtain ⟨h1, h2⟩ := in_lss hx hy
  exact ⟨fun h => by rw [h1 h]; rfl, fun h => by rw [h2 h]; rfl⟩
theorem in_gtr {x y : Nat} {a b c d : Rat} (hx : In x a b) (hy : In y c d) : (b ≤ c → fcmp .gtr .f64 (nrm .f64 x) (nrm .f64 y) = false) ∧ (d < a → fcmp .gtr .f64 (nrm .f64 x) (nrm .f64 y) = true) := by
  rw [cmp_gtr hx.1 hy.1]
  have := hx.2; have := hy.2
  constructor
  · intro h; simp only [decide_eq_false_iff_not]; grind
  · intro h; simp only [decide_eq_true_eq]; grind
/-- A float64 narrowed. -/
theorem in_nw {x : Nat} {a b : Rat} (hx : In x a b) (h1 : -64 ≤ a) (h2 : b ≤ 64) : fit1 (nrm .f64 x) ∧ fN .f32 (nw (nrm .f64 x)) = true ∧ a - 1 / 100000 ≤ vN .f32 (nw (nrm .f64 x)) ∧ vN .f32 (nw (nrm .f64 x)) ≤ b + 1 / 100000 := by
  have hA : A (vN .f64 (nrm .f64 x)) ≤ 64 := A_le.2 ⟨by have := hx.2; grind, by have := hx.2; grind⟩
  obtain ⟨f, R⟩ := nw_ok hx.1 (lt_of_p2 (a := 6) (Rat.le_trans hA (by decide +kernel)) (by decide))
  have h1 : A (vN .f32 (nw (nrm .f64 x)) - vN .f64 (nrm .f64 x)) ≤ p2 (-24) * A (vN .f64 (nrm .f64 x)) + p2 (-150) := R.2.1
  have h2 := Rat.mul_le_mul_of_nonneg_left hA (Rat.le_of_lt (p2_pos (-24)))
  have h3 : p2 (-24) * 64 + p2 (-150) ≤ 1 / 100000 := by decide +kernel
  have h4 : A (vN .f32 (nw (nrm .f64 x)) - vN .f64 (nrm .f64 x)) ≤ 1 / 100000 := Rat.le_trans h1 (Rat.le_trans (by generalize p2 (-24) = u at *; generalize p2 (-150) = v at *; clear h3; grind) h3)
  have e := le_A (vN .f32 (nw (nrm .f64 x)) - vN .f64 (nrm .f64 x))
  have := hx.2
  exact ⟨f, R.1, by grind, by grind⟩
end Go.Proofs.YtdnoilcfgicnnaaGreat

/- Absolute values, whole parts, parts of turns, of the program; on values. Conditions: numbers below 1. -/
namespace Go.Proofs.YtdnoilcfgicnnaaGreat
open Go Go.RowKit
set_option linter.unusedSimpArgs false
set_option linter.unusedVariables false

theorem cut0 (s : Bool) (n drop : Nat) (h : n < 2 ^ drop) : Ieee.Toward.zero.cut s n drop = 0 := by
  have h2 : n < 2 ^ (n.log2 + 2) := Nat.lt_of_lt_of_le Nat.lt_log2_self (Nat.pow_le_pow_right (by decide) (by omega))
  unfold Ieee.Toward.cut
  dsimp only
  rw [Nat.one_shiftLeft]
  have : n < 2 ^ min drop (n.log2 + 2) := by
    rcases Nat.le_total drop (n.log2 + 2) with hh | hh
    · rw [Nat.min_eq_left hh]; exact h
    · rw [Nat.min_eq_right hh]; exact h2
  rw [Nat.div_eq_of_lt this]
  rfl
theorem small_digits {y : Nat} (h : fN .f64 y = true) (hA : A (vN .f64 y) < 1) : ∃ s m e, FloatKind.f64.decode y = .number s m e ∧ m <<< e.toNat < 2 ^ (-e).toNat := by
  obtain ⟨s, m, e, hd⟩ := isNum_ex h
  refine ⟨s, m, e, hd, ?_⟩
  have hv : A (vN .f64 y) = (m : Rat) * p2 e := by unfold vN; rw [hd, A_val]
  rw [hv] at hA
  rcases Int.le_total 0 e with he | he
  · have : (-e).toNat = 0 := by omega
    rw [this, Nat.shiftLeft_eq]
    have h1 : ((m * 2 ^ e.toNat : Nat) : Rat) < ((1 : Nat) : Rat) := by
      rw [Rat.natCast_mul, ← p2_toNat he]; exact hA
    have : m * 2 ^ e.toNat < 1 := by exact_mod_cast h1
    simpa using this
  · have e1 : e.toNat = 0 := by omega
    rw [e1, Nat.shiftLeft_zero]
    have h2 := Rat.mul_lt_mul_of_pos_right hA (p2_pos (-e))
    rw [Rat.mul_assoc, p2_neg, Rat.mul_one, Rat.one_mul, p2_toNat (by omega)] at h2
    exact_mod_cast h2
theorem zero_word (s : Bool) : fN .f64 (FloatKind.f64.encode (.number s 0 0)) = true ∧ vN .f64 (FloatKind.f64.encode (.number s 0 0)) = 0 := by cases s <;> decide +kernel

theorem run_bits (x : Nat) (w : World) : (callFunc 118 #[.float .f64 x]).run Tryz.prog w = .ok (.value (.int .u64 x)) w := by kernel_rfl
theorem run_frombits (x : Int) (w : World) : (callFunc 113 #[.int .u64 x]).run Tryz.prog w = .ok (.value (.float .f64 x.toNat)) w := by kernel_rfl
theorem run_trunc0 (x : Nat) (w : World) : (callFunc 119 #[.float .f64 x]).run Tryz.prog w = (do let v ← Go.Extern.MathFloor.toIntegral "math.archTrunc" .zero #[.float .f64 x]; pure (Next.value v) : Sem Next).run Tryz.prog w := by kernel_rfl
def truncI (x : Nat) : Nat := FloatKind.f64.encode ((FloatKind.f64.decode x).integral .zero)
theorem integral_of {x : Nat} (h : isN .f64 x = false) : Go.Extern.MathFloor.toIntegral "math.archTrunc" .zero #[.float .f64 x] = pure (.float .f64 (truncI x)) := by
  unfold truncI
  conv => lhs; whnf
  cases hd : FloatKind.f64.decode x with
  | nan s f => unfold isN at h; rw [hd] at h; simp [Ieee.Datum.isNaN] at h
  | infinity s => rfl
  | number s m e => rfl
theorem run_trunc {x : Nat} (h : isN .f64 x = false) (w : World) : (callFunc 119 #[.float .f64 x]).run Tryz.prog w = .ok (.value (.float .f64 (truncI x))) w := by
  rw [run_trunc0, integral_of h]
  rfl
theorem trunc_impl (y : Nat) (w : World) (h : isN .f64 y = false) : Calls Tryz.prog 115 #[.float .f64 y] w fun e w' => e = .returned (.float .f64 (truncI y)) ∧ w = w' := by
  have ht := fun w => run_trunc h w
  clear h
  go_enter Tryz.func115, Tryz.ntmps115
  go_wp2
  go_ret
  exact ⟨rfl, rfl⟩
theorem trunc_small {y : Nat} (h : fN .f64 y = true) (hA : A (vN .f64 y) < 1) : fcmp .eql .f64 (truncI y) 0 = true := by
  obtain ⟨s, m, e, hd, hm⟩ := small_digits h hA
  have ht : truncI y = FloatKind.f64.encode (.number s 0 0) := by
    unfold truncI
    rw [hd]
    unfold Ieee.Datum.integral
    dsimp only
    rw [cut0 s _ _ hm]
  rw [ht]
  cases s <;> decide +kernel
theorem raw_of {k : FloatKind} {r X : Nat} (h : nrm k r = X) (hX : fN k X = true) : r = X := by
  cases hr : isN k r
  · rw [nrm_of_not hr] at h; exact h
  · rw [nrm_of_nan hr] at h
    rw [← h] at hX
    have := fN_not_nan hX
    rw [isN_qnan] at this
    cases this
theorem In.raw {x : Nat} {a b : Rat} (h : In x a b) : nrm .f64 x = x := (raw_of rfl h.1).symm

/-- What is left of turns: the number itself, or what lacks to 1. -/
def PartR (y : Nat) (w : World) (e : Ending) (w' : World) : Prop := ∃ f m, e = .returned (.float .f64 f) ∧ w' = w.drewN m ∧ fN .f64 (nrm .f64 f) = true ∧
  (0 ≤ vN .f64 (nrm .f64 y) → vN .f64 (nrm .f64 f) = vN .f64 (nrm .f64 y)) ∧ (vN .f64 (nrm .f64 y) < 0 → A (vN .f64 (nrm .f64 f) - (vN .f64 (nrm .f64 y) + 1)) ≤ e0)
theorem sub0_val {y : Nat} (h : fN .f64 y = true) (hA : A (vN .f64 y) < 1) : fN .f64 (fop .sub .f64 y 0) = true ∧ vN .f64 (fop .sub .f64 y 0) = vN .f64 y := by
  have f0 : fN .f64 0 = true := by decide +kernel
  have v0 : vN .f64 0 = 0 := by decide +kernel
  have e : vN .f64 y - vN .f64 0 = vN .f64 y := by rw [v0]; grind
  obtain ⟨m, i, a1, a2, a3⟩ := vN_lt .f64 h
  have R := fop_sub_res (k := .f64) h f0 (by rw [e]; exact l64 (by grind))
  rw [e] at R
  exact ⟨R.1, R.2.2 m i a1 a2 a3⟩
theorem nrm64_0 : nrm .f64 0 = 0 := by decide +kernel
set_option maxRecDepth 100000 in
theorem part_impl (y : Nat) (w : World) (h : fN .f64 (nrm .f64 y) = true) (hA : A (vN .f64 (nrm .f64 y)) < 1) : Calls Tryz.prog 102 #[.float .f64 y] w (PartR y w) := by
  have hy : nrm .f64 y = y := (raw_of rfl h).symm
  rw [hy] at h hA
  have Hn := Lib.hid (fN_not_nan h)
  have ht := trunc_small h hA
  obtain ⟨s1, s2⟩ := sub0_val h hA
  have n0 := nrm64_0
  have H1 := Lib.hid s1
  have H2 := Lib.hid s2
  have Hy := Lib.hid hy
  have f0 : fN .f64 0 = true := by decide +kernel
  have v0 : vN .f64 0 = 0 := by decide +kernel
  have c1 := cmp_lss s1 f0
  rw [v0, s2] at c1
  have Ht : fcmp .eql .f64 (nrm .f64 (truncI y)) 0 = true := by rw [← n0, fcmp_nrm]; exact ht
  by_cases hneg : vN .f64 y < 0
  · have hc : fcmp .lss .f64 (fop .sub .f64 y 0) 0 = true := by rw [c1]; simp [hneg]
    have HN := Lib.hid hneg
    have HA := Lib.hid hA
    have F1 := Lib.hid (show fN .f64 (fop .add .f64 (fop .sub .f64 y 0) (nrm .f64 4607182418800017408)) = true ∧ A (vN .f64 (fop .add .f64 (fop .sub .f64 y 0) (nrm .f64 4607182418800017408)) - (vN .f64 y + 1)) ≤ e0 from by
      have f1 : fN .f64 (nrm .f64 4607182418800017408) = true := by decide +kernel
      have v1 : vN .f64 (nrm .f64 4607182418800017408) = 1 := by decide +kernel
      have a2 : A (vN .f64 (fop .sub .f64 y 0) + vN .f64 (nrm .f64 4607182418800017408)) ≤ 64 := by
        rw [s2, v1]; have := A_add (vN .f64 y) 1; rw [show A (1 : Rat) = 1 by decide +kernel] at this; grind
      have R := fop_add_res (k := .f64) s1 f1 (l64 a2)
      have := res_e0 R a2
      rw [s2, v1] at this
      exact ⟨R.1, this⟩)
    clear ht s1 s2 c1 h hneg hA
    go_enter Tryz.func102, Tryz.ntmps102
    go_wp2_with (first | (with_reducible refine wpList_fop rfl _ _ _ _ _ rfl rfl .f64 _ _ rfl rfl ?_; intro r m hr; first | (have _t := hr1; have hr2 := hr; clear hr) | (have hr1 := hr; clear hr)) | (go_at_call 115; refine (trunc_impl _ _ Hn.out).mono ?_; rintro e w' ⟨rfl, rfl⟩))
    go_ret
    have e : nrm .f64 r = fop .add .f64 (fop .sub .f64 y 0) (nrm .f64 4607182418800017408) := by simp only [*]
    refine ⟨_, _, rfl, by first | rfl | (simp; rfl), ?_, ?_, ?_⟩
    · rw [e]; exact F1.out.1
    · intro h0; rw [Hy.out] at h0; have := HN.out; exact absurd h0 (by grind)
    · intro _; rw [e, Hy.out]; exact F1.out.2
  · have hc : fcmp .lss .f64 (fop .sub .f64 y 0) 0 = false := by rw [c1]; simp [hneg]
    have HN := Lib.hid hneg
    clear ht s1 s2 c1 h hneg hA
    go_enter Tryz.func102, Tryz.ntmps102
    go_wp2_with (first | (with_reducible refine wpList_fop rfl _ _ _ _ _ rfl rfl .f64 _ _ rfl rfl ?_; intro r m hr) | (go_at_call 115; refine (trunc_impl _ _ Hn.out).mono ?_; rintro e w' ⟨rfl, rfl⟩))
    go_ret
    have e : nrm .f64 r = fop .sub .f64 y 0 := by simp only [*]
    refine ⟨_, _, rfl, by first | rfl | (simp; rfl), ?_, ?_, ?_⟩
    · rw [e]; exact H1.out
    · intro h0; rw [e, Hy.out]; exact H2.out
    · intro h0; rw [Hy.out] at h0; exact absurd h0 HN.out
end Go.Proofs.YtdnoilcfgicnnaaGreat
