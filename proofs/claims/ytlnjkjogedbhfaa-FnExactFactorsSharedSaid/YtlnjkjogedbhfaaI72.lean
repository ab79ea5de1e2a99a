/- FactorsShared of the reference. Conditions: lengths of at most 2^40. -/
import Derived.Test.YtlnjkjogedbhfaaI62
import Derived.Test.YtlnjkjogedbhfaaI71
namespace Go.Proofs.Ytlnjkjogedbhfaa
open Go Go.RowKit
set_option linter.unusedSimpArgs false
set_option linter.unusedVariables false

set_option maxRecDepth 100000 in
/-- At a whole in memory. -/
theorem is_specA (b o : Nat) (v : Value) (zs : List Int) (w : World) (hp : w.cell? ⟨b, o, none⟩ = some v) (hv : RdI w v zs) (hl : zs.length ≤ 1099511627776) : Calls Try.prog 65 #[.pointer (some ⟨b, o, none⟩)] w fun e w' => e = .returned (.bool (validB zs)) ∧ w = w' := by
  have C := Lib.hid (terms_spec v zs w hv hl)
  obtain ⟨ao, cap, rfl⟩ := hv.shape
  clear hv
  go_enter Try.func65, Try.ntmps65
  go_wp2_with (go_at_call 125; refine C.out.mono ?_; rintro e w' ⟨rfl, rfl⟩)
  go_ret
  exact ⟨rfl, rfl⟩

set_option maxRecDepth 100000 in
set_option maxHeartbeats 800000 in
theorem over_specA (b o : Nat) (v : Value) (zs : List Int) (m : Int) (w : World) (hp : w.cell? ⟨b, o, none⟩ = some v) (hv : RdI w v zs) (hl : zs.length ≤ 1099511627776) : Calls Try.prog 68 #[.pointer (some ⟨b, o, none⟩), .int .i64 m] w fun e w' => e = .returned (.bool (overB m zs)) ∧ w = w' := by
  have Hv := Lib.hid hv
  obtain ⟨ao, cap, rfl⟩ := hv.shape
  have Hp := Lib.hid hp
  clear hv
  cases hm : primeB m
  · have Ho := Lib.hid (show overB m zs = false by rw [overB, hm]; rfl)
    go_enter Try.func68, Try.ntmps68
    go_wp2_with fail
    (go_at_call 120; ((with_reducible refine (prime_spec _ _).mono ?_); rintro e w' ⟨rfl, rfl⟩))
    go_wp2_with fail
    go_ret
    rw [Ho.out]
    exact ⟨rfl, rfl⟩
  · have hmp := primeB_bd hm
    cases hq : validB zs
    · have Ho := Lib.hid (show overB m zs = false by rw [overB, hm, overZ, hq]; rfl)
      go_enter Try.func68, Try.ntmps68
      go_wp2_with fail
      (go_at_call 120; ((with_reducible refine (prime_spec _ _).mono ?_); rintro e w' ⟨rfl, rfl⟩))
      go_wp2_with fail
      (go_at_call 65; ((with_reducible refine (is_specA b o _ zs _ Hp.out Hv.out hl).mono ?_); rintro e w' ⟨rfl, rfl⟩))
      go_wp2_with fail
      go_ret
      rw [Ho.out]
      exact ⟨rfl, rfl⟩
    · have Ho := Lib.hid (show overB m zs = !(zs.any fun z => !inB 0 z (m - 1)) by rw [overB, hm, overZ, hq]; rfl)
      have hne := (validB_ne hq).1
      obtain ⟨b2, off, cap2, he, hb2, hc⟩ := Hv.out.open hne
      simp only [Value.slice.injEq] at he
      obtain ⟨rfl, _, rfl⟩ := he
      have Hc := Lib.hid hc
      clear hc
      go_enter Try.func68, Try.ntmps68
      go_wp2_with fail
      (go_at_call 120; ((with_reducible refine (prime_spec _ _).mono ?_); rintro e w' ⟨rfl, rfl⟩))
      go_wp2_with fail
      (go_at_call 65; ((with_reducible refine (is_specA b o _ zs _ Hp.out Hv.out hl).mono ?_); rintro e w' ⟨rfl, rfl⟩))
      go_wp2_with fail
      clear hm hq
      go_loop [5, 19] (fun x i => ∃ k : Nat, k ≤ zs.length ∧ i = .int .i64 k ∧ NoneUpto (fun z => !inB 0 z (m - 1)) zs k) (fun _ i => zs.length - (intOf i).toNat)
      case atStart => exact ⟨0, Nat.zero_le _, rfl, NoneUpto.zero _ _⟩
      case round =>
        obtain ⟨k, hk, rfl, hf⟩ := hrel
        by_cases hlt : k < zs.length
        · have c1 := Hc.out k hlt
          cases hx : (fun z => !inB 0 z (m - 1)) (zs.getD k 0)
          · have H2 := Lib.hid (hf.succ hx)
            clear hf
            generalize zs.getD k 0 = z at *
            dsimp only at hx
            go_wp2_with (go_at_call 109; refine (in_spec _ _ _ _).mono ?_; rintro e w' ⟨rfl, rfl⟩)
            go_round
            case rel => exact ⟨k + 1, by omega, by go_num, H2.out⟩
            case measure => simp [intOf]; omega
          · have H2 := Lib.hid (any_true (p := fun z => !inB 0 z (m - 1)) hlt hx)
            clear hf
            generalize zs.getD k 0 = z at *
            dsimp only at hx
            go_wp2_with (go_at_call 109; refine (in_spec _ _ _ _).mono ?_; rintro e w' ⟨rfl, rfl⟩)
            go_ret
            rw [Ho.out, H2.out]
            exact ⟨rfl, rfl⟩
        · obtain rfl : k = zs.length := by omega
          have H2 := Lib.hid hf.any
          clear hf
          go_wp2
          go_ret
          rw [Ho.out, H2.out]
          exact ⟨rfl, rfl⟩

set_option maxRecDepth 100000 in
set_option maxHeartbeats 4000000 in
theorem few_specA (b o : Nat) (v : Value) (zs : List Int) (m : Int) (w : World) (hp : w.cell? ⟨b, o, none⟩ = some v) (hv : RdI w v zs) (hl : zs.length ≤ 1099511627776) : Calls Try.prog 116 #[.pointer (some ⟨b, o, none⟩), .int .i64 m] w fun e w' => e = .returned (.bool (facOk m zs)) ∧ w' = w := by
  have Hv := Lib.hid hv
  obtain ⟨ao, c, rfl⟩ := hv.shape
  have Hp := Lib.hid hp
  clear hv
  cases hq : overB m zs
  · have Ho := Lib.hid (show facOk m zs = false by unfold facOk; rw [hq]; rfl)
    go_enter Try.func116, Try.ntmps116
    go_wp2_with fail
    (go_at_call 68; ((with_reducible refine (over_specA _ _ _ zs m _ (Hp.out) Hv.out hl).mono ?_); rintro e w' ⟨rfl, rfl⟩))
    rw [hq]
    go_wp2_with fail
    go_ret
    exact ⟨by rw [Ho.out]; rfl, rfl⟩
  by_cases h2 : 2 ≤ zs.length
  · have h2' : (2 : Int) ≤ (zs.length : Int) := by omega
    by_cases h7 : zs.length ≤ 7
    · have h7' : (zs.length : Int) ≤ 7 := by omega
      have Ho := Lib.hid (show facOk m zs = true by unfold facOk; rw [hq, decide_eq_true h2, decide_eq_true h7]; rfl)
      go_enter Try.func116, Try.ntmps116
      go_wp2_with fail
      (go_at_call 68; ((with_reducible refine (over_specA _ _ _ zs m _ (Hp.out) Hv.out hl).mono ?_); rintro e w' ⟨rfl, rfl⟩))
      rw [hq]
      go_wp2_with fail
      go_ret
      exact ⟨by rw [Ho.out]; rfl, rfl⟩
    · have h7' : ¬ (zs.length : Int) ≤ 7 := by omega
      have Ho := Lib.hid (show facOk m zs = false by unfold facOk; rw [hq, decide_eq_false h7]; simp)
      go_enter Try.func116, Try.ntmps116
      go_wp2_with fail
      (go_at_call 68; ((with_reducible refine (over_specA _ _ _ zs m _ (Hp.out) Hv.out hl).mono ?_); rintro e w' ⟨rfl, rfl⟩))
      rw [hq]
      go_wp2_with fail
      go_ret
      exact ⟨by show Ending.returned (Value.bool (decide ((zs.length : Int) ≤ 7))) = _; rw [decide_eq_false (by omega), Ho.out], rfl⟩
  · have h2' : ¬ (2 : Int) ≤ (zs.length : Int) := by omega
    have Ho := Lib.hid (show facOk m zs = false by unfold facOk; rw [hq, decide_eq_false h2]; simp)
    go_enter Try.func116, Try.ntmps116
    go_wp2_with fail
    (go_at_call 68; ((with_reducible refine (over_specA _ _ _ zs m _ (Hp.out) Hv.out hl).mono ?_); rintro e w' ⟨rfl, rfl⟩))
    rw [hq]
    go_wp2_with fail
    go_ret
    exact ⟨by rw [Ho.out]; rfl, rfl⟩

set_option maxRecDepth 100000 in
set_option maxHeartbeats 4000000 in
theorem FactorsShared_spec (v : Value) (ls : List (List Int)) (m wk : Int) (w : World) (hv : RdWs w v ls) (hl : ls.length ≤ 1099511627776) (hl2 : ∀ i, (ls.getD i []).length ≤ 1099511627776) : Calls Try.prog 50 #[v, .int .i64 m, .int .i64 wk] w (RetSS (facS m wk ls) w) := by
  have Hv := Lib.hid hv
  have Hl2 := Lib.hid hl2
  obtain ⟨aov, cv, rfl⟩ := hv.shape'
  clear hv hl2
  by_cases h8 : (8 : Int) < (ls.length : Int)
  · have Ho := Lib.hid (show facS m wk ls = none by unfold facS; rw [if_neg (by simp; omega)])
    go_enter Try.func50, Try.ntmps50
    go_wp2_with fail
    go_ret2
    rw [Ho.out]
    exact ⟨_, rfl, .inl ⟨rfl, rfl⟩, by (repeat' (first | (with_reducible exact Below.refl _ _) | (with_reducible assumption) | (with_reducible refine Below.alloc ?_ ?_ _) | (with_reducible refine Below.setCell ?_ ?_ _) | (with_reducible refine Below.drew ?_) | (with_reducible refine Below.via (by assumption) ?_ ?_) | go_size))⟩
  cases hp : primeB m
  · have Ho := Lib.hid (show facS m wk ls = none by unfold facS; rw [if_neg (by simp [hp])])
    have Hp := Lib.hid hp
    clear hp
    go_enter Try.func50, Try.ntmps50
    go_wp2_with fail
    (go_at_call 120; ((with_reducible refine (prime_spec _ _).mono ?_); rintro e w' ⟨rfl, rfl⟩))
    rw [Hp.out]
    go_wp2_with fail
    go_ret2
    rw [Ho.out]
    exact ⟨_, rfl, .inl ⟨rfl, rfl⟩, by (repeat' (first | (with_reducible exact Below.refl _ _) | (with_reducible assumption) | (with_reducible refine Below.alloc ?_ ?_ _) | (with_reducible refine Below.setCell ?_ ?_ _) | (with_reducible refine Below.drew ?_) | (with_reducible refine Below.via (by assumption) ?_ ?_) | go_size))⟩
  cases hw : inB 1 wk 8
  · have Ho := Lib.hid (show facS m wk ls = none by unfold facS; rw [if_neg (by simp [hw])])
    have Hp := Lib.hid hp
    have Hw := Lib.hid hw
    clear hp hw
    go_enter Try.func50, Try.ntmps50
    go_wp2_with fail
    (go_at_call 120; ((with_reducible refine (prime_spec _ _).mono ?_); rintro e w' ⟨rfl, rfl⟩))
    rw [Hp.out]
    go_wp2_with fail
    (go_at_call 109; ((with_reducible refine (in_spec _ _ _ _).mono ?_); rintro e w' ⟨rfl, rfl⟩))
    rw [Hw.out]
    go_wp2_with fail
    go_ret2
    rw [Ho.out]
    exact ⟨_, rfl, .inl ⟨rfl, rfl⟩, by (repeat' (first | (with_reducible exact Below.refl _ _) | (with_reducible assumption) | (with_reducible refine Below.alloc ?_ ?_ _) | (with_reducible refine Below.setCell ?_ ?_ _) | (with_reducible refine Below.drew ?_) | (with_reducible refine Below.via (by assumption) ?_ ?_) | go_size))⟩
  have Hp := Lib.hid hp
  have Hw := Lib.hid hw
  clear hp hw
  have hl8 : ls.length ≤ 8 := by omega
  obtain ⟨M, hM⟩ : ∃ M : Nat, m = M := ⟨m.toNat, by have := primeB_bd Hp.out; omega⟩
  subst hM
  go_enter Try.func50, Try.ntmps50
  go_wp2_with fail
  (go_at_call 120; ((with_reducible refine (prime_spec _ _).mono ?_); rintro e w' ⟨rfl, rfl⟩))
  rw [Hp.out]
  go_wp2_with fail
  (go_at_call 109; ((with_reducible refine (in_spec _ _ _ _).mono ?_); rintro e w' ⟨rfl, rfl⟩))
  rw [Hw.out]
  have HRow0 := Lib.hid (RowSS.empty (w := w) (B := w.heap.size) rfl (Nat.le_refl _))
  go_wp2_with fail
  go_loopw [8, 26] (fun ov iv wr => ∃ k : Nat, k ≤ ls.length ∧ iv = .int .i64 k ∧ (ls.take k).all (facOk (M : Int)) = true ∧ RowSS wr w.heap.size ov ((ls.take k).map (facL (M : Int))) ∧ Below w.heap.size w wr) (fun _ iv _ => ls.length - (intOf iv).toNat)
  case atStart => exact ⟨0, Nat.zero_le _, rfl, by simp, by simpa using HRow0.out, by (repeat' (first | (with_reducible exact Below.refl _ _) | (with_reducible assumption) | (with_reducible refine Below.alloc ?_ ?_ _) | (with_reducible refine Below.setCell ?_ ?_ _) | (with_reducible refine Below.drew ?_) | (with_reducible refine Below.via (by assumption) ?_ ?_) | go_size))⟩
  case round =>
    obtain ⟨k, hk, rfl, hall, hrow, hbel⟩ := hrel
    have Hall := Lib.hid hall
    have Hrow := Lib.hid hrow
    have Hbel := Lib.hid hbel
    have hsz := hbel.size
    clear hall hrow hbel
    by_cases hlt : k < ls.length
    · have hlti : (k : Int) < (ls.length : Int) := by omega
      obtain ⟨b, off, cap, hve, _, hcs⟩ := (Hv.out.below Hbel.out).open (List.ne_nil_of_length_pos (by omega))
      simp only [Value.slice.injEq, true_and] at hve
      obtain ⟨rfl, rfl⟩ := hve
      obtain ⟨u, hc, hr⟩ := hcs k hlt
      obtain ⟨p, q, rfl⟩ := hr.shape
      have HR := Lib.hid hr
      have hx2 := Hl2.out k
      have Htk := Lib.hid (take_snocD hlt)
      clear hcs hr
      generalize ls.getD k [] = x at *
      go_wp2_with fail
      (go_at_call 116; ((with_reducible refine (few_specA _ _ _ x (M : Int) _ hc HR.out hx2).mono ?_); rintro e w' ⟨rfl, rfl⟩))
      cases hok : facOk (M : Int) x
      · have Ho := Lib.hid (show facS (M : Int) wk ls = none by
          unfold facS
          rw [if_neg]
          have h1 : ls.all (facOk (M : Int)) = false := by
            rw [← List.take_append_drop (k + 1) ls, List.all_append, Htk.out]
            simp [hok]
          simp [h1])
        clear hok
        go_wp2_with fail
        go_ret2
        rw [Ho.out]
        exact ⟨_, rfl, .inl ⟨rfl, rfl⟩, Hbel.out⟩
      · have hF := facL_all hok
        rw [Int.toNat_natCast] at hF
        have HF := Lib.hid hF
        clear hF
        have hpl : ((ls.take k).map (facL (M : Int))).length ≤ 1048576 := by rw [List.length_map, List.length_take]; omega
        have Hall2 := Lib.hid (show (ls.take (k + 1)).all (facOk (M : Int)) = true by rw [Htk.out, List.all_append, Hall.out]; simp [hok])
        have Hmap := Lib.hid (show (ls.take (k + 1)).map (facL (M : Int)) = (ls.take k).map (facL (M : Int)) ++ [facL (M : Int) x] by rw [Htk.out, List.map_append]; rfl)
        clear hok
        generalize (ls.take k).map (facL (M : Int)) = acc at *
        go_wp2_with fail
        (go_at_call 117; ((with_reducible refine (ordered_spec _ x (monicS M x) M (facL M x) _ (HR.out.below (by (repeat' (first | (with_reducible exact Below.refl _ _) | (with_reducible assumption) | (with_reducible refine Below.alloc ?_ ?_ _) | (with_reducible refine Below.setCell ?_ ?_ _) | (with_reducible refine Below.drew ?_) | (with_reducible refine Below.via (by assumption) ?_ ?_) | go_size)))) HF.out.hm HF.out.ov HF.out.nz HF.out.l7 rfl HF.out.mon HF.out.fs (Nat.le_trans HF.out.l6 (by omega)) HF.out.srt HF.out.ne).mono ?_); rintro e w3 ⟨v3, rfl, o3, hb3⟩))
        have O3 := Lib.hid o3
        obtain ⟨p3, n3, rfl⟩ := o3.rd.shape'
        have B3 := Lib.hid hb3
        have z3 := hb3.size
        clear o3 hb3
        go_wp2_with (at_builtin; go_must (refine wpList_pushSS Hrow.out B3.out O3.out rfl _ _ rfl wholeSS_under hpl hsz rfl rfl (by simp) ?_); intro v9 w9 hr9 hb9)
        go_roundw
        case rel => exact ⟨k + 1, by omega, by go_num, Hall2.out, by rw [Hmap.out]; exact hr9, (Hbel.out.trans (B3.out.mono hsz)).trans hb9⟩
        case measure => simp [intOf]; omega
    · obtain rfl : k = ls.length := by omega
      have Ho := Lib.hid (show facS (M : Int) wk ls = some (ls.map (facL (M : Int))) by
        have h1 := Hall.out
        rw [List.take_length] at h1
        unfold facS
        rw [if_pos]
        simp [hl8, Hp.out, Hw.out, h1])
      have Hr := Lib.hid (show RowSS wr w.heap.size _ (ls.map (facL (M : Int))) by have h := Hrow.out; rw [List.take_length] at h; exact h)
      go_wp2_with fail
      go_ret2
      rw [Ho.out]
      exact ⟨_, rfl, Hr.out.own, Hbel.out⟩

end Go.Proofs.Ytlnjkjogedbhfaa
