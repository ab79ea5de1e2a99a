/- Rests of wholes: the reference's walk. Conditions: valid wholes. -/
import Derived.Test.YtlnjkjogedbhfaaI22
import Derived.Test.YtlnjkjogedbhfaaIL1
import Derived.StillTailTactics
namespace Go.Proofs.Ytlnjkjogedbhfaa
open Go Go.RowKit
set_option linter.unusedSimpArgs false
set_option linter.unusedVariables false

/-- The first k terms times a number. -/
def stA (A : List Int) (c : Int) : Nat → List Int
  | 0 => A
  | k + 1 => (stA A c k).set k ((stA A c k).getD k 0 * c)
theorem stA_length (A : List Int) (c : Int) : ∀ k, (stA A c k).length = A.length
  | 0 => rfl
  | k + 1 => by rw [stA, List.length_set, stA_length A c k]
theorem set_getD (l : List Int) (p i : Nat) (y : Int) (hp : p < l.length) : (l.set p y).getD i 0 = if i = p then y else l.getD i 0 := by
  by_cases e : i = p
  · subst e; simp [List.getD, hp]
  · rw [if_neg e]
    simp only [List.getD]
    rw [List.getElem?_set_ne (by omega)]
theorem stA_get (A : List Int) (c : Int) : ∀ k, k ≤ A.length → ∀ i, (stA A c k).getD i 0 = if i < k then A.getD i 0 * c else A.getD i 0
  | 0, _, i => by simp [stA]
  | k + 1, hk, i => by
    rw [stA, set_getD _ _ _ _ (by rw [stA_length]; omega), stA_get A c k (by omega) k, stA_get A c k (by omega) i]
    by_cases e : i = k
    · subst e; rw [if_pos rfl, if_neg (by omega), if_pos (by omega)]
    · rw [if_neg e]
      by_cases h : i < k
      · rw [if_pos h, if_pos (by omega)]
      · rw [if_neg h, if_neg (by omega)]
/-- The first k terms of another list, times a number, taken away, from a place on. -/
def stB (X b : List Int) (l : Int) (s : Nat) : Nat → List Int
  | 0 => X
  | k + 1 => (stB X b l s k).set (s + k) ((stB X b l s k).getD (s + k) 0 - l * b.getD k 0)
theorem stB_length (X b : List Int) (l : Int) (s : Nat) : ∀ k, (stB X b l s k).length = X.length
  | 0 => rfl
  | k + 1 => by rw [stB, List.length_set, stB_length X b l s k]
theorem stB_get (X b : List Int) (l : Int) (s : Nat) : ∀ k, s + k ≤ X.length → ∀ i, (stB X b l s k).getD i 0 = if s ≤ i ∧ i < s + k then X.getD i 0 - l * b.getD (i - s) 0 else X.getD i 0
  | 0, _, i => by rw [if_neg (by omega)]; rfl
  | k + 1, hk, i => by
    rw [stB, set_getD _ _ _ _ (by rw [stB_length]; omega), stB_get X b l s k (by omega) (s + k), stB_get X b l s k (by omega) i]
    by_cases e : i = s + k
    · subst e; rw [if_pos rfl, if_neg (by omega), if_pos (by omega), show s + k - s = k by omega]
    · rw [if_neg e]
      by_cases h : s ≤ i ∧ i < s + k
      · rw [if_pos h, if_pos (by omega)]
      · rw [if_neg h, if_neg (by omega)]
theorem st_eq {A b : List Int} (hab : b.length ≤ A.length) : stB (stA A (lastZ b) A.length) b (lastZ A) (A.length - b.length) b.length = stepZ A b := by
  have hl : (stepZ A b).length = A.length := buildZ_length _ _
  refine ext_getD (by rw [stB_length, stA_length, hl]) fun i => ?_
  rw [stB_get _ _ _ _ _ (by rw [stA_length]; omega), stA_get _ _ _ (Nat.le_refl _), stepZ, buildZ_get]
  by_cases hi : i < A.length
  · rw [if_pos hi, if_pos hi, stepE]
    unfold atZ
    by_cases h : A.length - b.length ≤ i
    · rw [if_pos ⟨h, by omega⟩, if_pos ⟨by omega, by omega⟩, show ((i : Int) - ((A.length : Int) - b.length)).toNat = i - (A.length - b.length) by omega]
    · rw [if_neg (by omega), if_neg (by omega)]
      simp
  · rw [if_neg hi, if_neg hi, if_neg (by omega)]
    simp [List.getD, List.getElem?_eq_none (show A.length ≤ i by omega)]
theorem stA_bd {A : List Int} {c : Int} (hA : BdI 1000000 A) (hc : -1000000 ≤ c ∧ c ≤ 1000000) {k : Nat} (hk : k ≤ A.length) : BdI 1000000000000 (stA A c k) := fun i => by
  rw [stA_get A c k hk i]
  have h1 := hA i
  have h2 := mul_bound (M := 1000000) (by omega) (hA i) hc
  split <;> omega
theorem stB_bd {X b : List Int} {l : Int} {s : Nat} (hX : BdI 1000000000000 X) (hb : BdI 1000000 b) (hl : -1000000 ≤ l ∧ l ≤ 1000000) {k : Nat} (hk : s + k ≤ X.length) : BdI 2000000000000 (stB X b l s k) := fun i => by
  rw [stB_get X b l s k hk i]
  have h1 := hX i
  have h2 := mul_bound (M := 1000000) (by omega) hl (hb (i - s))
  split <;> omega
def ROptL (F : Option (List Int)) (w : World) (e : Ending) (w' : World) : Prop := ∃ v, e = .returned (.tuple #[v, .bool F.isSome]) ∧ RdI w' v (F.getD []) ∧ Below w.heap.size w w'
/-- What holds at the head of the loop. -/
def RS (w : World) (b : List Int) (F : Option (List Int)) (g : Nat) (nv : Value) (wr : World) : Prop :=
  ∃ A, OwI wr w.heap.size nv A ∧ Vld A ∧ restZ A b = F ∧ meas A = g ∧ Below w.heap.size w wr

set_option maxRecDepth 100000 in
set_option maxHeartbeats 4000000 in
theorem rest_ref (va vb : Value) (a b : List Int) (w : World) (ha : RdI w va a) (hb : RdI w vb b) (hva : Vld a) (hvb : Vld b) : Calls Try.prog 137 #[va, vb] w (ROptL (restZ a b) w) := by
  have Ha := Lib.hid ha
  have Hvb := Lib.hid hvb
  have hlb := hvb.len
  have hla := hva.len
  have hlb1 := List.length_pos_iff.2 hvb.ne
  obtain ⟨bb, ob, cb, rfl, hbs, hcb⟩ := hb.open hvb.ne
  have Hb := Lib.hid hb
  have Hcb := Lib.hid (fun (w' : World) (h : Below w.heap.size w w') i (hi : i < b.length) => (h.cell (p := ⟨bb, ob + i, none⟩) hbs).trans (hcb i hi))
  obtain ⟨aoa, ca, rfl⟩ := ha.shape
  have Hl := Lib.hid (show b.getD (b.length - 1) 0 = lastZ b from rfl)
  have hlz := hvb.bd (b.length - 1)
  rw [Hl.out] at hlz
  clear ha hb hcb hvb
  go_enter Try.func137, Try.ntmps137
  go_wp2_with (at_builtin; refine wpList_clone rfl _ _ rfl int64S_under Ha.out hva.ne (by omega) rfl rfl rfl ?_; intro g0 cap0 w1 hr1 hb1)
  have Hr1 := Lib.hid hr1
  have Hb1 := Lib.hid hb1
  clear hr1 hb1
  go_loopg [7] (meas a) (fun g nv wr => RS w b (restZ a b) g nv wr)
  case atStart => exact ⟨a, Hr1.out, hva, rfl, rfl, Hb1.out⟩
  case round =>
    obtain ⟨A, hA, hvA, hre, hme, hbel⟩ := hrel
    have HA := Lib.hid hA
    have HvA := Lib.hid hvA
    have Hre := Lib.hid hre
    have Hme := Lib.hid hme
    have hlA := hvA.len
    have hlA1 := List.length_pos_iff.2 hvA.ne
    obtain ⟨gA, cA, rfl, hBg, hgw, hcl, hcm, hcA⟩ := hA.open hvA.ne
    have HcA := Lib.hid hcA
    have Hbel := Lib.hid hbel
    have hsz := hbel.size
    clear hA hvA hre hme hva hbel hcA
    by_cases hab : b.length ≤ A.length
    · cases hz : zeroB A
      · have Hz := Lib.hid hz
        have cl := HcA.out (A.length - 1) (by omega)
        have HlA := Lib.hid (show A.getD (A.length - 1) 0 = lastZ A from rfl)
        have hlzA := HvA.out.bd (A.length - 1)
        rw [HlA.out] at cl hlzA
        go_wp2_with fail
        (go_at_call 123; ((with_reducible refine (zero_spec _ A _ HA.out.rd (by omega)).mono ?_); rintro e w' ⟨rfl, rfl⟩))
        obtain ⟨s, hs⟩ : ∃ s : Nat, A.length = s + b.length := ⟨A.length - b.length, by omega⟩
        have hmv : IntKind.i64.wrap ((A.length : Int) - b.length) = (s : Int) := by rw [IntWalk.i64_in _ ⟨by omega, by omega⟩]; omega
        have Hs := Lib.hid hs
        clear hs
        go_wp2
        have hs1 : A.length ≤ s + b.length := by have h := Hs.out; omega
        have hs2 : s + b.length ≤ A.length := by have h := Hs.out; omega
        clear hz
        go_loopw [39] (fun i wr2 => ∃ k : Nat, k ≤ A.length ∧ i = .int .i64 k ∧ OwI wr2 w.heap.size (.slice (some ⟨gA, 0, none⟩) A.length cA) (stA A (lastZ b) k) ∧ Below w.heap.size w wr2) (fun i _ => A.length - (intOf i).toNat)
        case atStart => exact ⟨0, Nat.zero_le _, rfl, HA.out, Hbel.out⟩
        case round =>
          obtain ⟨k, hk, rfl, hrX, hbel⟩ := hrel
          have HrX := Lib.hid hrX
          have Hbel2 := Lib.hid hbel
          clear hrX
          by_cases hlt : k < A.length
          · have hc := HrX.out.cellF (j := k) (by rw [stA_length]; exact hlt)
            have hbd := stA_bd HvA.out.bd hlz (Nat.le_of_lt hlt) k
            have hX := stA_get A (lastZ b) k (Nat.le_of_lt hlt) k
            rw [if_neg (by omega)] at hX
            have hp := mul_bound (M := 1000000) (by omega) (HvA.out.bd k) hlz
            have c1 := hc.1
            have c2 := hc.2
            have c3 := (Hcb.out _ hbel (b.length - 1) (by omega))
            rw [Hl.out] at c3
            have H2 := Lib.hid (HrX.out.set k ((stA A (lastZ b) k).getD k 0 * lastZ b))
            have H3 := Lib.hid (show stA A (lastZ b) (k + 1) = (stA A (lastZ b) k).set k ((stA A (lastZ b) k).getD k 0 * lastZ b) from rfl)
            rw [hX] at c1 H2 H3
            generalize A.getD k 0 = x at *
            generalize lastZ b = lb at *
            clear hc hbd hX hbel
            have q1 : IntKind.i64.wrap ((b.length : Int) - 1) = (b.length : Int) - 1 := IntWalk.i64_in _ ⟨by omega, by omega⟩
            have q2 : (0 : Int) ≤ (b.length : Int) - 1 := by omega
            have q3 : ((b.length : Int) - 1).toNat = b.length - 1 := by omega
            have q4 : IntKind.i64.wrap (x * lb) = x * lb := IntWalk.i64_in _ ⟨by omega, by omega⟩
            have q5 : (b.length : Int) - 1 < b.length := by omega
            have q6 : (1 : Int) ≤ b.length := by omega
            have q7 : 1 ≤ b.length := by omega
            go_wp2
            (refine wp_region_still_tail 11 (by kernel_rfl) (by kernel_rfl) ?_; simp only [List.take_succ_cons, List.take_zero, List.drop_succ_cons, List.drop_zero]; repeat still_step; (try refine wpStill_nil ?_))
            change wpList _ _ _ _ _ (World.drew _)
            go_wp2
            go_roundw
            case rel => exact ⟨k + 1, by omega, by go_num, by rw [H3.out]; exact H2.out.below ((Below.refl _ _).drew), by have h3 := Hbel2.out; (repeat' (first | (with_reducible exact Below.refl _ _) | (with_reducible assumption) | (with_reducible refine Below.alloc ?_ ?_ _) | (with_reducible refine Below.setCell ?_ ?_ _) | (with_reducible refine Below.drew ?_) | (with_reducible refine Below.via (by assumption) ?_ ?_) | go_size))⟩
            case measure => simp [intOf] <;> omega
          · obtain rfl : k = A.length := by omega
            clear hbel
            go_wp2
            go_loopw [56] (fun i wr3 => ∃ k : Nat, k ≤ b.length ∧ i = .int .i64 k ∧ OwI wr3 w.heap.size (.slice (some ⟨gA, 0, none⟩) A.length cA) (stB (stA A (lastZ b) A.length) b (lastZ A) s k) ∧ Below w.heap.size w wr3) (fun i _ => b.length - (intOf i).toNat)
            case atStart => exact ⟨0, Nat.zero_le _, rfl, HrX.out, Hbel2.out⟩
            case round =>
              obtain ⟨k, hk, rfl, hrY, hbel⟩ := hrel
              have HrY := Lib.hid hrY
              have Hbel3 := Lib.hid hbel
              clear hrY
              by_cases hlt : k < b.length
              · have hsk : s + k < (stB (stA A (lastZ b) A.length) b (lastZ A) s k).length := by rw [stB_length, stA_length]; omega
                have hc := HrY.out.cellF (j := s + k) hsk
                have c1 := hc.1
                have c2 := hc.2
                have c3 := Hcb.out _ hbel k hlt
                have hX := stB_bd (stA_bd HvA.out.bd hlz (Nat.le_refl _)) Hvb.out.bd hlzA (s := s) (k := k) (by rw [stA_length]; omega) (s + k)
                have hp := mul_bound (M := 1000000) (by omega) hlzA (Hvb.out.bd k)
                have H2 := Lib.hid (HrY.out.set (s + k) ((stB (stA A (lastZ b) A.length) b (lastZ A) s k).getD (s + k) 0 - lastZ A * b.getD k 0))
                have H3 := Lib.hid (show stB (stA A (lastZ b) A.length) b (lastZ A) s (k + 1) = (stB (stA A (lastZ b) A.length) b (lastZ A) s k).set (s + k) ((stB (stA A (lastZ b) A.length) b (lastZ A) s k).getD (s + k) 0 - lastZ A * b.getD k 0) from rfl)
                clear hc hsk hbel cl
                generalize (stB (stA A (lastZ b) A.length) b (lastZ A) s k).getD (s + k) 0 = x at *
                generalize b.getD k 0 = y at *
                generalize lastZ A = la at *
                have q1 : IntKind.i64.wrap ((s : Int) + k) = (s : Int) + k := IntWalk.i64_in _ ⟨by omega, by omega⟩
                have q2 : (s : Int) + k < (A.length : Int) := by omega
                have q3 : ((s : Int) + k).toNat = s + k := by omega
                have q4 : IntKind.i64.wrap (la * y) = la * y := IntWalk.i64_in _ ⟨by omega, by omega⟩
                have q5 : IntKind.i64.wrap (x - la * y) = x - la * y := IntWalk.i64_in _ ⟨by omega, by omega⟩
                have q6 : (0 : Int) ≤ (s : Int) + k := by omega
                go_wp2
                (refine wp_region_still_tail 14 (by kernel_rfl) (by kernel_rfl) ?_; simp only [List.take_succ_cons, List.take_zero, List.drop_succ_cons, List.drop_zero]; repeat still_step; (try refine wpStill_nil ?_))
                change wpList _ _ _ _ _ (World.drew _)
                go_wp2
                go_roundw
                case rel => exact ⟨k + 1, by omega, by go_num, by rw [H3.out]; exact H2.out.below ((Below.refl _ _).drew), by have h3 := Hbel3.out; (repeat' (first | (with_reducible exact Below.refl _ _) | (with_reducible assumption) | (with_reducible refine Below.alloc ?_ ?_ _) | (with_reducible refine Below.setCell ?_ ?_ _) | (with_reducible refine Below.drew ?_) | (with_reducible refine Below.via (by assumption) ?_ ?_) | go_size))⟩
                case measure => simp [intOf] <;> omega
              · obtain rfl : k = b.length := by omega
                have Hst := Lib.hid (show OwI wr w.heap.size (.slice (some ⟨gA, 0, none⟩) A.length cA) (stepZ A b) by have h := HrY.out; rw [show s = A.length - b.length by omega, st_eq (by omega)] at h; exact h)
                have hsl : (stepZ A b).length = A.length := buildZ_length _ _
                have hz3 := hbel.size
                clear hbel HrY HrX cl
                go_wp2_with fail
                (go_at_call 74; ((with_reducible refine (trim_spec _ (stepZ A b) _ Hst.out.rd (by omega)).mono ?_); rintro e w4 ⟨v4, rfl, ho4, hb4⟩))
                have hne : stepZ A b ≠ [] := by intro h; rw [h] at hsl; simp at hsl; omega
                have Ho4 := Lib.hid (show OwI w4 w.heap.size v4 (trimZ (stepZ A b)) by have h := ho4.mono hz3; rw [trimS_eq hne] at h; exact h)
                have hTt := trimZ_trd hne
                have hTl : (trimZ (stepZ A b)).length ≤ 17 := by rw [trimZ_length]; exact Nat.le_trans (trimTo_le _ _) (by omega)
                have Hgo := Lib.hid (fun h => restZ_go (b := b) HvA.out.ne Hvb.out.ne hab Hz.out h)
                have Hno := Lib.hid (fun h => restZ_none (b := b) HvA.out.ne Hvb.out.ne hab Hz.out h)
                have Hms := Lib.hid (step_meas (b := b) HvA.out.ne Hvb.out.ne hab Hz.out)
                have Hb4 := Lib.hid (show Below w.heap.size w w4 by have h := Hbel3.out; (repeat' (first | (with_reducible exact Below.refl _ _) | (with_reducible assumption) | (with_reducible refine Below.alloc ?_ ?_ _) | (with_reducible refine Below.setCell ?_ ?_ _) | (with_reducible refine Below.drew ?_) | (with_reducible refine Below.via (by assumption) ?_ ?_) | go_size)))
                clear hb4 ho4
                generalize trimZ (stepZ A b) = T at *
                obtain ⟨g4, c4, rfl, hB4, hg4, _, _, hc4⟩ := Ho4.out.open hTt.ne
                have Hc4 := Lib.hid hc4
                clear hc4
                go_wp2
                go_loopw [78] (fun i wr5 => ∃ k : Nat, k ≤ T.length ∧ i = .int .i64 k ∧ wr5 = w4 ∧ ∀ j, j < k → inB (-1000000) (T.getD j 0) 1000000 = true) (fun i _ => T.length - (intOf i).toNat)
                case atStart => exact ⟨0, Nat.zero_le _, rfl, rfl, fun j hj => absurd hj (by omega)⟩
                case round =>
                  obtain ⟨k, hk, rfl, rfl, hall⟩ := hrel
                  have Hall := Lib.hid hall
                  clear hall
                  by_cases hlt : k < T.length
                  · have c1 := Hc4.out k hlt
                    cases hin : inB (-1000000) (T.getD k 0) 1000000
                    · have Hf := Lib.hid (show restZ a b = none by
                        rw [← Hre.out]
                        refine Hno.out ?_
                        cases hv : validB T
                        · rfl
                        · have h := (validB_iff.1 hv).bd k
                          rw [inB, decide_eq_false_iff_not] at hin
                          exact absurd h hin)
                      generalize T.getD k 0 = z at *
                      go_wp2_with fail
                      (go_at_call 109; ((with_reducible refine (in_spec _ _ _ _).mono ?_); rintro e w' ⟨rfl, rfl⟩))
                      go_wp2_with fail
                      go_ret2
                      rw [Hf.out]
                      exact ⟨_, rfl, (OwI.nil _ w.heap.size).rd, Hb4.out⟩
                    · have Hin := Lib.hid hin
                      generalize hz2 : T.getD k 0 = z at *
                      have Hz2 := Lib.hid hz2
                      clear hz2
                      go_wp2_with fail
                      (go_at_call 109; ((with_reducible refine (in_spec _ _ _ _).mono ?_); rintro e w' ⟨rfl, rfl⟩))
                      go_wp2_with fail
                      go_roundw
                      case rel =>
                        refine ⟨k + 1, by omega, by go_num, by first | rfl | trivial, fun j hj => ?_⟩
                        by_cases e : j = k
                        · subst e; rw [Hz2.out]; exact Hin.out
                        · exact Hall.out j (by omega)
                      case measure => simp [intOf] <;> omega
                  · obtain rfl : k = T.length := by omega
                    have Hv := Lib.hid (show Vld T from ⟨hTt, fun i => by
                      by_cases hi : i < T.length
                      · have h := Hall.out i hi
                        rw [inB, decide_eq_true_iff] at h
                        exact h
                      · rw [List.getD, List.getElem?_eq_none (by omega)]; simp, hTl⟩)
                    go_wp2_with fail
                    go_roundg (meas T)
                    case measure => rw [← Hme.out]; exact Hms.out
                    case rel => exact ⟨T, Ho4.out, Hv.out, by rw [← Hgo.out (validB_iff.2 Hv.out)]; exact Hre.out, rfl, Hb4.out⟩
      · have Hf := Lib.hid (show restZ a b = some A by rw [← Hre.out, restZ_stop (.inl hz)])
        go_wp2_with fail
        (go_at_call 123; ((with_reducible refine (zero_spec _ A _ HA.out.rd (by omega)).mono ?_); rintro e w' ⟨rfl, rfl⟩))
        go_wp2_with fail
        go_ret2
        rw [Hf.out]
        exact ⟨_, rfl, HA.out.rd, Hbel.out⟩
    · have Hf := Lib.hid (show restZ a b = some A by rw [← Hre.out, restZ_stop (.inr (by omega))])
      go_wp2_with fail
      go_ret2
      rw [Hf.out]
      exact ⟨_, rfl, HA.out.rd, Hbel.out⟩

end Go.Proofs.Ytlnjkjogedbhfaa
