/- The laws' helpers at lists of wholes: equality, marks. Conditions: lengths of at most 2^40. -/
import Derived.Test.YtlnjkjogedbhfaaIWs
import Derived.Deep.RegionHeld3
namespace Go.Proofs.Ytlnjkjogedbhfaa
open Go Go.RowKit
set_option linter.unusedSimpArgs false
set_option linter.unusedVariables false

def preL (ls : List (List Int)) : Nat → Nat
  | 0 => 0
  | i + 1 => preL ls i + (ls.getD i []).length
theorem preL_le (ls : List (List Int)) : ∀ {i j : Nat}, i ≤ j → preL ls i ≤ preL ls j := by
  intro i j h
  induction j with
  | zero => obtain rfl : i = 0 := by omega
            exact Nat.le_refl _
  | succ j ih =>
    by_cases e : i = j + 1
    · subst e; exact Nat.le_refl _
    · have := ih (by omega)
      simp only [preL]; omega
theorem preL_bd {ls : List (List Int)} {M : Nat} (h : ∀ i, (ls.getD i []).length ≤ M) : ∀ i, preL ls i ≤ i * M
  | 0 => by simp [preL]
  | i + 1 => by
    have h1 := preL_bd h i
    have h2 := h i
    rw [preL, Nat.succ_mul]
    omega
/-- The marks of a list of wholes. -/
def marksWs (k : Int) (ls : List (List Int)) : List (List Int) := (List.range ls.length).map fun i => marksZ (k + preL ls i) (ls.getD i []).length
theorem marksWs_length (k : Int) (ls : List (List Int)) : (marksWs k ls).length = ls.length := by simp [marksWs]
theorem marksWs_get {k : Int} {ls : List (List Int)} {i : Nat} (h : i < ls.length) : (marksWs k ls).getD i [] = marksZ (k + preL ls i) (ls.getD i []).length := by
  simp [marksWs, List.getD, h]
theorem marksWs_el {k : Int} {ls : List (List Int)} {f c : Nat → Nat} {i : Nat} (h : i < ls.length) : elV (marksWs k ls) f c i = elV ls f c i := by
  simp only [elV, marksWs_get h, marksZ_length]

set_option maxRecDepth 100000 in
set_option maxHeartbeats 1600000 in
theorem eq_wholeS (va vb : Value) (ls : List (List Int)) (w : World) (ha : RdWs w va ls) (hb : RdWs w vb ls) (hl : ls.length ≤ 1099511627776) (hl2 : ∀ i, (ls.getD i []).length ≤ 1099511627776) : Calls Try.prog 44 #[va, vb] w (RB true w) := by
  by_cases h0 : ls = []
  · subst h0
    obtain ⟨ao, cap, rfl⟩ := ha.shape
    obtain ⟨bo, cap2, rfl⟩ := hb.shape
    clear ha hb
    go_enter Try.func44, Try.ntmps44
    go_wp2
    refine wp_loop_rounds 1 ?_
    rw [rounds_succ]
    go_wp2
    go_ret
    exact ⟨rfl, Below.refl _ _⟩
  · obtain ⟨b, off, cap, rfl, hbs, hc⟩ := ha.open h0
    obtain ⟨b', off', cap', rfl, hbs', hc'⟩ := hb.open h0
    have Hc := Lib.hid hc
    have Hc' := Lib.hid hc'
    have Hl2 := Lib.hid hl2
    clear hc hc' ha hb hl2
    go_enter Try.func44, Try.ntmps44
    go_wp2
    go_loopw [5] (fun i wr => ∃ k : Nat, k ≤ ls.length ∧ i = .int .i64 k ∧ Below w.heap.size w wr) (fun i _ => ls.length - (intOf i).toNat)
    case atStart => exact ⟨0, Nat.zero_le _, rfl, Below.refl _ _⟩
    case round =>
      obtain ⟨k, hk, rfl, hbel⟩ := hrel
      have hsz := hbel.size
      by_cases hlt : k < ls.length
      · obtain ⟨u, c1, r1⟩ := Hc.out k hlt
        obtain ⟨u', c2, r2⟩ := Hc'.out k hlt
        have d1 := (hbel.cell (p := ⟨b, off + k, none⟩) hbs).trans c1
        have d2 := (hbel.cell (p := ⟨b', off' + k, none⟩) hbs').trans c2
        have R1 := Lib.hid (r1.below hbel)
        have R2 := Lib.hid (r2.below hbel)
        have hz := Hl2.out k
        have s1 : b < wr.heap.size := by omega
        have s2 : b' < wr.heap.size := by omega
        obtain ⟨a1, n1, rfl⟩ := r1.shape
        obtain ⟨a2, n2, rfl⟩ := r2.shape
        clear c1 c2 r1 r2
        generalize ls.getD k [] = z at *
        go_wp2
        go_region_held3 (fun w' => w'.cell? ⟨b, off + k, none⟩ = some (.slice a1 z.length n1) ∧ w'.cell? ⟨b', off' + k, none⟩ = some (.slice a2 z.length n2))
          (((try dsimp only); (try go_split_ands); refine ⟨?_, ?_⟩ <;> (first | assumption  | (rw [e1.cell (by first | omega | (simp <;> omega))]; assumption) | (refine (((Below.refl _ _).alloc (Nat.le_refl _) _).cell (by first | omega | (simp <;> omega))).trans (by assumption)) | (go_keep; done))))
          (first
            | (go_at_call 35; ((with_reducible refine (eq_whole _ _ z _ (R1.out.below (by (repeat' (first | (with_reducible exact Below.refl _ _) | (with_reducible assumption) | (with_reducible refine Below.alloc ?_ ?_ _) | (with_reducible refine Below.setCell ?_ ?_ _) | (with_reducible refine Below.drew ?_) | (with_reducible refine Below.via (by assumption) ?_ ?_) | go_size)))) (R2.out.below (by (repeat' (first | (with_reducible exact Below.refl _ _) | (with_reducible assumption) | (with_reducible refine Below.alloc ?_ ?_ _) | (with_reducible refine Below.setCell ?_ ?_ _) | (with_reducible refine Below.drew ?_) | (with_reducible refine Below.via (by assumption) ?_ ?_) | go_size)))) hz).mono ?_); rintro e w2 ⟨rfl, e1⟩; have ze1 := e1.size; (try simp only [World.size_alloc, World.size_drew, World.size_setCell] at ze1))))
        all_goals
          go_wp2_with fail
          go_roundw
          case rel => exact ⟨k + 1, by omega, by go_num, hbel.trans ((show Below wr.heap.size wr w2 by (repeat' (first | (with_reducible exact Below.refl _ _) | (with_reducible assumption) | (with_reducible refine Below.alloc ?_ ?_ _) | (with_reducible refine Below.setCell ?_ ?_ _) | (with_reducible refine Below.drew ?_) | (with_reducible refine Below.via (by assumption) ?_ ?_) | go_size))).mono hsz)⟩
          case measure => simp [intOf]; omega
      · obtain rfl : k = ls.length := by omega
        go_wp2
        go_ret
        exact ⟨rfl, hbel⟩

def MarkWs (lo hi : Nat) (v : Value) (ls : List (List Int)) (k : Int) (w : World) (e : Ending) (w' : World) : Prop :=
  e = .returned (.int .i64 (k + preL ls ls.length)) ∧ OwWs w' lo hi v (marksWs k ls) ∧ Only lo hi w w'
set_option maxRecDepth 100000 in
set_option maxHeartbeats 1600000 in
theorem mark_wholeS (v : Value) (ls : List (List Int)) (lo hi : Nat) (k : Int) (w : World) (hv : OwWs w lo hi v ls) (hl : ls.length ≤ 1048576) (hl2 : ∀ i, (ls.getD i []).length ≤ 1048576) (k0 : 0 ≤ k) (k1 : k + preL ls ls.length ≤ 1099511627776) : Calls Try.prog 45 #[v, .int .i64 k] w (MarkWs lo hi v ls k w) := by
  have Hv := Lib.hid hv
  by_cases h0 : ls = []
  · obtain ⟨ao, cap, rfl⟩ := hv.rd.shape
    subst h0
    clear hv
    go_enter Try.func45, Try.ntmps45
    go_wp2
    refine wp_loop_rounds 1 ?_
    rw [rounds_succ]
    go_wp2
    go_ret
    exact ⟨by simp [preL], Hv.out, Only.refl _ _ _⟩
  · have Hl2 := Lib.hid hl2
    rcases hv with ⟨_, h⟩ | ⟨g, cap, f, c, rfl, hcp, hg1, hg2, hg3, he, hx⟩
    · exact absurd h h0
    have He := Lib.hid he
    have Hx := Lib.hid hx
    clear he hx hl2
    go_enter Try.func45, Try.ntmps45
    go_wp2
    go_loopw [1, 5] (fun q i wr => ∃ j : Nat, j ≤ ls.length ∧ i = .int .i64 j ∧ q = .int .i64 (k + preL ls j) ∧ (∀ i, i < ls.length → wr.cell? ⟨g, i, none⟩ = some (elV ls f c i)) ∧ (∀ i, i < ls.length → OwI wr lo (elV ls f c i) (if i < j then marksZ (k + preL ls i) (ls.getD i []).length else ls.getD i [])) ∧ Only lo hi w wr) (fun _ i _ => ls.length - (intOf i).toNat)
    case atStart => exact ⟨0, Nat.zero_le _, rfl, by simp [preL], Hx.out, fun i hi => by rw [if_neg (by omega)]; exact (He.out i hi).1, Only.refl _ _ _⟩
    case round =>
      obtain ⟨j, hj, rfl, rfl, hxr, hor, hon⟩ := hrel
      have Hxr := Lib.hid hxr
      have Hor := Lib.hid hor
      have Hon := Lib.hid hon
      have hgs := hon.size
      clear hxr hor hon
      by_cases hlt : j < ls.length
      · have d1 := Hxr.out j hlt
        have h1 := Hor.out j hlt
        rw [if_neg (Nat.lt_irrefl _)] at h1
        obtain ⟨_, hf1, hf2, hf3⟩ := He.out j hlt
        obtain ⟨_, q1, q2, _⟩ := h1.cases1
        have R1 := Lib.hid (show OwR wr (f j) (f j + 1) (.slice (some ⟨f j, 0, none⟩) (ls.getD j []).length (c j)) (ls.getD j []) from ⟨h1.here, fun g n c hv => by simp only [Value.slice.injEq, Option.some.injEq] at hv; rw [← hv.1]; exact Nat.lt_succ_self _⟩)
        have hz := Hl2.out j
        have hp1 := preL_le ls (show j ≤ ls.length by omega)
        have hp2 := preL_le ls (show j + 1 ≤ ls.length by omega)
        have hp3 : preL ls (j + 1) = preL ls j + (ls.getD j []).length := rfl
        have hf3' := Lib.hid hf3
        have Hpn := Lib.hid (show k + (preL ls (j + 1) : Int) = k + (preL ls j : Int) + ((ls.getD j []).length : Int) by rw [hp3]; omega)
        simp only [elV] at d1
        clear h1 hf3 hp3
        have Hnew := Lib.hid (fun (w2 : World) (om : OwI w2 (f j) (.slice (some ⟨f j, 0, none⟩) (ls.getD j []).length (c j)) (marksZ (k + preL ls j) (ls.getD j []).length)) (hm : Only (f j) (f j + 1) wr w2) =>
          (show (∀ i, i < ls.length → w2.cell? ⟨g, i, none⟩ = some (elV ls f c i)) ∧ (∀ i, i < ls.length → OwI w2 lo (elV ls f c i) (if i < j + 1 then marksZ (k + preL ls i) (ls.getD i []).length else ls.getD i [])) ∧ Only lo hi w w2 from by
            refine ⟨fun i hi => ?_, fun i hi => ?_, Hon.out.trans (hm.wide (by omega) (by omega))⟩
            · rw [hm.cell (p := ⟨g, i, none⟩) (by simp only; omega) (by simp only; omega)]
              exact Hxr.out i hi
            · by_cases e : i = j
              · subst e
                rw [if_pos (by omega)]
                exact om.mono q1
              · have hne : f i ≠ f j := by
                  rcases Nat.lt_or_gt_of_ne e with h | h
                  · exact hf3'.out i h
                  · exact fun h2 => (He.out i hi).2.2.2 j h h2.symm
                have h2 := Hor.out i hi
                obtain ⟨_, _, q3, _⟩ := h2.cases1
                have h3 := h2.block (w' := w2) (hm.block _ q3 (by omega))
                by_cases h4 : i < j
                · rw [if_pos h4] at h3; rw [if_pos (by omega)]; exact h3
                · rw [if_neg h4] at h3; rw [if_neg (by omega)]; exact h3))
        generalize hqq : k + (preL ls j : Int) = q at *
        generalize hzz : ls.getD j [] = zj at *
        clear hzz
        go_wp2_with fail
        (go_at_call 107; ((with_reducible refine (mark_ints _ zj (f j) (f j + 1) q _ R1.out (by omega) (by omega) (by omega)).mono ?_); rintro e w2 ⟨rfl, om, hm⟩))
        obtain ⟨hn1, hn2, hn3⟩ := Hnew.out w2 om hm
        have Hn1 := Lib.hid hn1
        have Hn2 := Lib.hid hn2
        have Hn3 := Lib.hid hn3
        clear hn1 hn2 hn3 om hm
        go_wp2_with fail
        go_roundw
        case rel => exact ⟨j + 1, by omega, by go_num, by rw [Hpn.out], Hn1.out, Hn2.out, Hn3.out⟩
        case measure => simp [intOf]; omega
      · obtain rfl : j = ls.length := by omega
        go_wp2
        go_ret
        refine ⟨rfl, .inr ⟨g, cap, f, c, by rw [marksWs_length], by rw [marksWs_length]; exact hcp, hg1, hg2, by omega, fun i hi => ?_, fun i hi => ?_⟩, Hon.out⟩
        · rw [marksWs_length] at hi
          rw [marksWs_el hi, marksWs_get hi]
          have h1 := Hor.out i hi
          rw [if_pos hi] at h1
          exact ⟨h1, (He.out i hi).2⟩
        · rw [marksWs_length] at hi
          rw [marksWs_el hi]
          exact Hxr.out i hi

set_option maxRecDepth 100000 in
set_option maxHeartbeats 1600000 in
theorem held_wholeS (v : Value) (ls : List (List Int)) (k : Int) (w : World) (hv : RdWs w v (marksWs k ls)) (hl : ls.length ≤ 1048576) (hl2 : ∀ i, (ls.getD i []).length ≤ 1048576) (k0 : 0 ≤ k) (k1 : k + preL ls ls.length ≤ 1099511627776) : Calls Try.prog 46 #[v, .int .i64 k] w fun e w' => e = .returned (.int .i64 (k + preL ls ls.length)) ∧ w = w' := by
  by_cases h0 : ls = []
  · subst h0
    obtain ⟨ao, cap, hs⟩ := hv.shape
    rw [marksWs_length] at hs
    subst hs
    clear hv
    go_enter Try.func46, Try.ntmps46
    go_wp2
    refine wp_loop_rounds 1 ?_
    rw [rounds_succ]
    go_wp2
    go_ret
    exact ⟨by simp [preL], rfl⟩
  · obtain ⟨b, off, cap, hs, hbs, hc⟩ := hv.open (fun h => h0 (by have := marksWs_length k ls; rw [h] at this; exact List.length_eq_zero_iff.1 this.symm))
    rw [marksWs_length] at hs hc
    subst hs
    have Hc := Lib.hid hc
    have Hl2 := Lib.hid hl2
    clear hc hv hl2
    go_enter Try.func46, Try.ntmps46
    go_wp2
    go_loopw [1, 5] (fun q i wr => ∃ j : Nat, j ≤ ls.length ∧ i = .int .i64 j ∧ q = .int .i64 (k + preL ls j) ∧ w = wr) (fun _ i _ => ls.length - (intOf i).toNat)
    case atStart => exact ⟨0, Nat.zero_le _, rfl, by simp [preL], rfl⟩
    case round =>
      obtain ⟨j, hj, rfl, rfl, rfl⟩ := hrel
      by_cases hlt : j < ls.length
      · obtain ⟨u, c1, r1⟩ := Hc.out j hlt
        rw [marksWs_get hlt] at r1
        have hz := Hl2.out j
        have hp1 := preL_le ls (show j ≤ ls.length by omega)
        have hp2 := preL_le ls (show j + 1 ≤ ls.length by omega)
        have hp3 : preL ls (j + 1) = preL ls j + (ls.getD j []).length := rfl
        have Hpn := Lib.hid (show k + (preL ls (j + 1) : Int) = k + (preL ls j : Int) + ((ls.getD j []).length : Int) by rw [hp3]; omega)
        have R1 := Lib.hid r1
        obtain ⟨a1, n1, hs⟩ := r1.shape
        rw [marksZ_length] at hs
        subst hs
        clear r1 hp3
        generalize hqq : k + (preL ls j : Int) = q at *
        generalize hzz : ls.getD j [] = zj at *
        clear hzz
        go_wp2_with fail
        (go_at_call 108; ((with_reducible refine (held_ints _ zj.length q _ R1.out (by omega) (by omega) (by omega)).mono ?_); rintro e w2 ⟨rfl, rfl⟩))
        have hpos : ¬ (q + (zj.length : Int) < 0) := by omega
        go_wp2_with fail
        go_roundw
        case rel => exact ⟨j + 1, by omega, by go_num, by rw [Hpn.out], by first | rfl | trivial⟩
        case measure => simp [intOf]; omega
      · obtain rfl : j = ls.length := by omega
        go_wp2
        go_ret
        exact ⟨rfl, rfl⟩

end Go.Proofs.Ytlnjkjogedbhfaa
