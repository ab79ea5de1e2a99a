/- The laws' helpers at lists of lists of wholes: equality, marks. Conditions: lengths of at most 2^20. -/
import Derived.Test.YtlnjkjogedbhfaaI70
import Derived.Test.YtlnjkjogedbhfaaIL4
namespace Go.Proofs.Ytlnjkjogedbhfaa
open Go Go.RowKit
set_option linter.unusedSimpArgs false
set_option linter.unusedVariables false

/-- Small: all lengths. -/
def SmlSS (lss : List (List (List Int))) : Prop := lss.length ≤ 1000 ∧ ∀ i, (lss.getD i []).length ≤ 1000 ∧ ∀ j, ((lss.getD i []).getD j []).length ≤ 1000
def preSS (lss : List (List (List Int))) : Nat → Nat
  | 0 => 0
  | i + 1 => preSS lss i + preL (lss.getD i []) (lss.getD i []).length
theorem preSS_le (lss : List (List (List Int))) : ∀ {i j : Nat}, i ≤ j → preSS lss i ≤ preSS lss j := by
  intro i j h
  induction j with
  | zero => obtain rfl : i = 0 := by omega
            exact Nat.le_refl _
  | succ j ih =>
    by_cases e : i = j + 1
    · subst e; exact Nat.le_refl _
    · have := ih (by omega)
      simp only [preSS]; omega
theorem SmlSS.pre {lss : List (List (List Int))} (h : SmlSS lss) : ∀ i, preSS lss i ≤ i * 1000000
  | 0 => by simp [preSS]
  | i + 1 => by
    have h1 := h.pre i
    have h2 := preL_bd (fun j => (h.2 i).2 j) (lss.getD i []).length
    have h3 := (h.2 i).1
    have h4 : (lss.getD i []).length * 1000 ≤ 1000 * 1000 := Nat.mul_le_mul_right _ h3
    rw [preSS, Nat.succ_mul]
    omega
/-- The marks of a list of lists. -/
def marksSS (k : Int) (lss : List (List (List Int))) : List (List (List Int)) := (List.range lss.length).map fun i => marksWs (k + preSS lss i) (lss.getD i [])
theorem marksSS_length (k : Int) (lss : List (List (List Int))) : (marksSS k lss).length = lss.length := by simp [marksSS]
theorem marksSS_get {k : Int} {lss : List (List (List Int))} {i : Nat} (h : i < lss.length) : (marksSS k lss).getD i [] = marksWs (k + preSS lss i) (lss.getD i []) := by
  simp [marksSS, List.getD, h]
theorem RdSS.open {w : World} {v : Value} {lss : List (List (List Int))} (h : RdSS w v lss) (hn : lss ≠ []) : ∃ b cap, v = .slice (some ⟨b, 0, none⟩) lss.length cap ∧ b < w.heap.size ∧ ∀ i, i < lss.length → ∃ u, w.cell? ⟨b, i, none⟩ = some u ∧ RdWs w u (lss.getD i []) := by
  obtain ⟨ao, cap, hv, _, hr⟩ := h
  rcases hr with hr | ⟨b, rfl, hl, hc⟩
  · exact absurd hr hn
  · exact ⟨b, cap, hv, hl, hc⟩

set_option maxRecDepth 100000 in
set_option maxHeartbeats 1600000 in
theorem eq_wholeSS (va vb : Value) (lss : List (List (List Int))) (w : World) (ha : RdSS w va lss) (hb : RdSS w vb lss) (hs : SmlSS lss) : Calls Try.prog 53 #[va, vb] w (RB true w) := by
  by_cases h0 : lss = []
  · subst h0
    obtain ⟨ao, cap, rfl⟩ := ha.shape
    obtain ⟨bo, cap2, rfl⟩ := hb.shape
    clear ha hb
    go_enter Try.func53, Try.ntmps53
    go_wp2
    refine wp_loop_rounds 1 ?_
    rw [rounds_succ]
    go_wp2
    go_ret
    exact ⟨rfl, Below.refl _ _⟩
  · obtain ⟨b, cap, rfl, hbs, hc⟩ := ha.open h0
    obtain ⟨b', cap', rfl, hbs', hc'⟩ := hb.open h0
    have Hc := Lib.hid hc
    have Hc' := Lib.hid hc'
    have Hs := Lib.hid hs
    have hl := hs.1
    clear hc hc' ha hb hs
    go_enter Try.func53, Try.ntmps53
    go_wp2
    go_loopw [5] (fun i wr => ∃ k : Nat, k ≤ lss.length ∧ i = .int .i64 k ∧ Below w.heap.size w wr) (fun i _ => lss.length - (intOf i).toNat)
    case atStart => exact ⟨0, Nat.zero_le _, rfl, Below.refl _ _⟩
    case round =>
      obtain ⟨k, hk, rfl, hbel⟩ := hrel
      have hsz := hbel.size
      by_cases hlt : k < lss.length
      · obtain ⟨u, c1, r1⟩ := Hc.out k hlt
        obtain ⟨u', c2, r2⟩ := Hc'.out k hlt
        have d1 := (hbel.cell (p := ⟨b, k, none⟩) hbs).trans c1
        have d2 := (hbel.cell (p := ⟨b', k, none⟩) hbs').trans c2
        have R1 := Lib.hid (r1.below hbel)
        have R2 := Lib.hid (r2.below hbel)
        have hz := (Hs.out.2 k).1
        have hz2 := Lib.hid (Hs.out.2 k).2
        have s1 : b < wr.heap.size := by omega
        have s2 : b' < wr.heap.size := by omega
        obtain ⟨a1, n1, rfl⟩ := r1.shape
        obtain ⟨a2, n2, rfl⟩ := r2.shape
        clear c1 c2 r1 r2
        generalize lss.getD k [] = z at *
        go_wp2
        go_region_held3 (fun w' => w'.cell? ⟨b, k, none⟩ = some (.slice a1 z.length n1) ∧ w'.cell? ⟨b', k, none⟩ = some (.slice a2 z.length n2))
          (((try dsimp only); (try go_split_ands); refine ⟨?_, ?_⟩ <;> (first | assumption  | (rw [e1.cell (by first | omega | (simp <;> omega))]; assumption) | (refine (((Below.refl _ _).alloc (Nat.le_refl _) _).cell (by first | omega | (simp <;> omega))).trans (by assumption)) | (go_keep; done))))
          (first
            | (go_at_call 44; ((with_reducible refine (eq_wholeS _ _ z _ (R1.out.below (by (repeat' (first | (with_reducible exact Below.refl _ _) | (with_reducible assumption) | (with_reducible refine Below.alloc ?_ ?_ _) | (with_reducible refine Below.setCell ?_ ?_ _) | (with_reducible refine Below.drew ?_) | (with_reducible refine Below.via (by assumption) ?_ ?_) | go_size)))) (R2.out.below (by (repeat' (first | (with_reducible exact Below.refl _ _) | (with_reducible assumption) | (with_reducible refine Below.alloc ?_ ?_ _) | (with_reducible refine Below.setCell ?_ ?_ _) | (with_reducible refine Below.drew ?_) | (with_reducible refine Below.via (by assumption) ?_ ?_) | go_size)))) (by omega) (fun i => by have := hz2.out i; omega)).mono ?_); rintro e w2 ⟨rfl, e1⟩; have ze1 := e1.size; (try simp only [World.size_alloc, World.size_drew, World.size_setCell] at ze1))))
        all_goals
          go_wp2_with fail
          go_roundw
          case rel => exact ⟨k + 1, by omega, by go_num, hbel.trans ((show Below wr.heap.size wr w2 by (repeat' (first | (with_reducible exact Below.refl _ _) | (with_reducible assumption) | (with_reducible refine Below.alloc ?_ ?_ _) | (with_reducible refine Below.setCell ?_ ?_ _) | (with_reducible refine Below.drew ?_) | (with_reducible refine Below.via (by assumption) ?_ ?_) | go_size))).mono hsz)⟩
          case measure => simp [intOf]; omega
      · obtain rfl : k = lss.length := by omega
        go_wp2
        go_ret
        exact ⟨rfl, hbel⟩

def MarkSS (lo hi : Nat) (v : Value) (lss : List (List (List Int))) (k : Int) (w : World) (e : Ending) (w' : World) : Prop :=
  e = .returned (.int .i64 (k + preSS lss lss.length)) ∧ OwSS w' lo hi v (marksSS k lss) ∧ Only lo hi w w'
set_option maxRecDepth 100000 in
set_option maxHeartbeats 1600000 in
theorem mark_wholeSS (v : Value) (lss : List (List (List Int))) (lo hi : Nat) (k : Int) (w : World) (hv : OwSS w lo hi v lss) (hs : SmlSS lss) (k0 : 0 ≤ k) (k1 : k ≤ 1000000) : Calls Try.prog 54 #[v, .int .i64 k] w (MarkSS lo hi v lss k w) := by
  have Hv := Lib.hid hv
  by_cases h0 : lss = []
  · obtain ⟨ao, cap, rfl⟩ := hv.rd.shape
    subst h0
    clear hv
    go_enter Try.func54, Try.ntmps54
    go_wp2
    refine wp_loop_rounds 1 ?_
    rw [rounds_succ]
    go_wp2
    go_ret
    exact ⟨by simp [preSS], Hv.out, Only.refl _ _ _⟩
  · have Hs := Lib.hid hs
    have hl := hs.1
    have hpa := hs.pre lss.length
    have hpa2 : lss.length * 1000000 ≤ 1000 * 1000000 := Nat.mul_le_mul_right _ hl
    rcases hv with ⟨_, h⟩ | ⟨g, cap, L, H, u, rfl, hcp, hg1, hg2, hg3, he, hx⟩
    · exact absurd h h0
    have He := Lib.hid he
    have Hx := Lib.hid hx
    clear he hx hs
    go_enter Try.func54, Try.ntmps54
    go_wp2
    go_loopw [1, 5] (fun q i wr => ∃ j : Nat, j ≤ lss.length ∧ i = .int .i64 j ∧ q = .int .i64 (k + preSS lss j) ∧ (∀ i, i < lss.length → wr.cell? ⟨g, i, none⟩ = some (u i)) ∧ (∀ i, i < lss.length → OwWs wr (L i) (H i) (u i) (if i < j then marksWs (k + preSS lss i) (lss.getD i []) else lss.getD i [])) ∧ Only lo hi w wr) (fun _ i _ => lss.length - (intOf i).toNat)
    case atStart => exact ⟨0, Nat.zero_le _, rfl, by simp [preSS], Hx.out, fun i hi => by rw [if_neg (by omega)]; exact He.out.own i hi, Only.refl _ _ _⟩
    case round =>
      obtain ⟨j, hj, rfl, rfl, hxr, hor, hon⟩ := hrel
      have Hxr := Lib.hid hxr
      have Hor := Lib.hid hor
      have Hon := Lib.hid hon
      have hgs := hon.size
      clear hxr hor hon
      by_cases hlt : j < lss.length
      · have d1 := Hxr.out j hlt
        have h1 := Hor.out j hlt
        rw [if_neg (Nat.lt_irrefl _)] at h1
        have R1 := Lib.hid h1
        have hz := (Hs.out.2 j).1
        have hz2 := Lib.hid (Hs.out.2 j).2
        have hp1 := preSS_le lss (show j ≤ lss.length by omega)
        have hp2 := preSS_le lss (show j + 1 ≤ lss.length by omega)
        have hp3 : preSS lss (j + 1) = preSS lss j + preL (lss.getD j []) (lss.getD j []).length := rfl
        have Hpn := Lib.hid (show k + (preSS lss (j + 1) : Int) = k + (preSS lss j : Int) + (preL (lss.getD j []) (lss.getD j []).length : Int) by rw [hp3]; omega)
        have hkq : k + (preSS lss j : Int) + (preL (lss.getD j []) (lss.getD j []).length : Int) ≤ 1099511627776 := by omega
        have hkp : 0 ≤ k + (preSS lss j : Int) := by omega
        have Hnew := Lib.hid (fun (w2 : World) (om : OwWs w2 (L j) (H j) (u j) (marksWs (k + preSS lss j) (lss.getD j []))) (hm : Only (L j) (H j) wr w2) =>
          (show (∀ i, i < lss.length → w2.cell? ⟨g, i, none⟩ = some (u i)) ∧ (∀ i, i < lss.length → OwWs w2 (L i) (H i) (u i) (if i < j + 1 then marksWs (k + preSS lss i) (lss.getD i []) else lss.getD i [])) ∧ Only lo hi w w2 from by
            refine ⟨fun i hi => ?_, fun i hi => ?_, Hon.out.trans (hm.wide (He.out.lo j hlt) (He.out.hi j hlt))⟩
            · rw [hm.cell (p := ⟨g, i, none⟩) (by simp only; omega) (by simp only; have := He.out.g j hlt; omega)]
              exact Hxr.out i hi
            · by_cases e : i = j
              · subst e
                rw [if_pos (by omega)]
                exact om
              · have h2 := (Hor.out i hi).only hm (by
                  rcases Nat.lt_or_gt_of_ne e with h | h
                  · exact .inl (He.out.apart i j h hlt)
                  · exact .inr (He.out.apart j i h hi))
                by_cases h4 : i < j
                · rw [if_pos h4] at h2; rw [if_pos (by omega)]; exact h2
                · rw [if_neg h4] at h2; rw [if_neg (by omega)]; exact h2))
        obtain ⟨p, n, hu⟩ := h1.rd.shape
        rw [hu] at d1 R1
        have Hu := Lib.hid hu
        clear h1 hu hp3 hp1 hp2
        generalize hqq : k + (preSS lss j : Int) = q at *
        generalize hzz : lss.getD j [] = zj at *
        clear hzz
        go_wp2_with fail
        (go_at_call 45; ((with_reducible refine (mark_wholeS _ zj (L j) (H j) q _ R1.out (by omega) (fun i => by have := hz2.out i; omega) (by omega) (by omega)).mono ?_); rintro e w2 ⟨rfl, om, hm⟩))
        obtain ⟨hn1, hn2, hn3⟩ := Hnew.out w2 (by rw [Hu.out]; exact om) hm
        have Hn1 := Lib.hid hn1
        have Hn2 := Lib.hid hn2
        have Hn3 := Lib.hid hn3
        clear hn1 hn2 hn3 om hm
        go_wp2_with fail
        go_roundw
        case rel => exact ⟨j + 1, by omega, by go_num, by rw [Hpn.out], Hn1.out, Hn2.out, Hn3.out⟩
        case measure => simp [intOf]; omega
      · obtain rfl : j = lss.length := by omega
        go_wp2
        go_ret
        refine ⟨rfl, .inr ⟨g, cap, L, H, u, by rw [marksSS_length], by rw [marksSS_length]; exact hcp, hg1, hg2, by omega, ⟨fun i hi => ?_, ?_, ?_, ?_, ?_, ?_⟩, ?_⟩, Hon.out⟩
        · rw [marksSS_length] at hi
          rw [marksSS_get hi]
          have h1 := Hor.out i hi
          rw [if_pos hi] at h1
          exact h1
        all_goals rw [marksSS_length]
        · exact He.out.lo
        · exact He.out.hi
        · exact He.out.le
        · exact He.out.g
        · exact He.out.apart
        · exact Hxr.out

set_option maxRecDepth 100000 in
set_option maxHeartbeats 1600000 in
theorem held_wholeSS (v : Value) (lss : List (List (List Int))) (k : Int) (w : World) (hv : RdSS w v (marksSS k lss)) (hs : SmlSS lss) (k0 : 0 ≤ k) (k1 : k ≤ 1000000) : Calls Try.prog 55 #[v, .int .i64 k] w fun e w' => e = .returned (.int .i64 (k + preSS lss lss.length)) ∧ w = w' := by
  by_cases h0 : lss = []
  · subst h0
    obtain ⟨ao, cap, hs⟩ := hv.shape
    rw [marksSS_length] at hs
    subst hs
    clear hv
    go_enter Try.func55, Try.ntmps55
    go_wp2
    refine wp_loop_rounds 1 ?_
    rw [rounds_succ]
    go_wp2
    go_ret
    exact ⟨by simp [preSS], rfl⟩
  · obtain ⟨b, cap, hsv, hbs, hc⟩ := hv.open (fun h => h0 (by have := marksSS_length k lss; rw [h] at this; exact List.length_eq_zero_iff.1 this.symm))
    rw [marksSS_length] at hsv hc
    subst hsv
    have Hc := Lib.hid hc
    have Hs := Lib.hid hs
    have hl := hs.1
    have hpa := hs.pre lss.length
    have hpa2 : lss.length * 1000000 ≤ 1000 * 1000000 := Nat.mul_le_mul_right _ hl
    clear hc hv hs
    go_enter Try.func55, Try.ntmps55
    go_wp2
    go_loopw [1, 5] (fun q i wr => ∃ j : Nat, j ≤ lss.length ∧ i = .int .i64 j ∧ q = .int .i64 (k + preSS lss j) ∧ w = wr) (fun _ i _ => lss.length - (intOf i).toNat)
    case atStart => exact ⟨0, Nat.zero_le _, rfl, by simp [preSS], rfl⟩
    case round =>
      obtain ⟨j, hj, rfl, rfl, rfl⟩ := hrel
      by_cases hlt : j < lss.length
      · obtain ⟨u, c1, r1⟩ := Hc.out j hlt
        rw [marksSS_get hlt] at r1
        have hz := (Hs.out.2 j).1
        have hz2 := Lib.hid (Hs.out.2 j).2
        have hp1 := preSS_le lss (show j ≤ lss.length by omega)
        have hp2 := preSS_le lss (show j + 1 ≤ lss.length by omega)
        have hp3 : preSS lss (j + 1) = preSS lss j + preL (lss.getD j []) (lss.getD j []).length := rfl
        have Hpn := Lib.hid (show k + (preSS lss (j + 1) : Int) = k + (preSS lss j : Int) + (preL (lss.getD j []) (lss.getD j []).length : Int) by rw [hp3]; omega)
        have hkq : k + (preSS lss j : Int) + (preL (lss.getD j []) (lss.getD j []).length : Int) ≤ 1099511627776 := by omega
        have hkp : 0 ≤ k + (preSS lss j : Int) := by omega
        have R1 := Lib.hid r1
        obtain ⟨p, n, rfl⟩ := r1.shape
        clear r1 hp3 hp1 hp2
        generalize hqq : k + (preSS lss j : Int) = q at *
        generalize hzz : lss.getD j [] = zj at *
        clear hzz hqq
        go_wp2_with fail
        (go_at_call 46; ((with_reducible refine (held_wholeS _ zj q _ R1.out (by omega) (fun i => by have := hz2.out i; omega) (by omega) (by omega)).mono ?_); rintro e w' ⟨rfl, rfl⟩))
        generalize preL zj zj.length = pz at *
        have hq1 : ¬ (q + (pz : Int) < 0) := by omega
        clear c1 hz hkq hkp hpa hpa2 k1 k0
        go_wp2_with fail
        go_roundw
        case rel => exact ⟨j + 1, by omega, by go_num, by rw [Hpn.out], by first | rfl | trivial⟩
        case measure => simp [intOf]; omega
      · obtain rfl : j = lss.length := by omega
        go_wp2
        go_ret
        exact ⟨rfl, rfl⟩

end Go.Proofs.Ytlnjkjogedbhfaa
