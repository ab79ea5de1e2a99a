/- Exact quotients of wholes: plain laws, the reference's walk. Conditions: valid wholes. -/
import Derived.Test.YtlnjkjogedbhfaaI26
import Derived.Test.YtlnjkjogedbhfaaI10
namespace Go.Proofs.Ytlnjkjogedbhfaa
open Go Go.RowKit
set_option linter.unusedSimpArgs false
set_option linter.unusedVariables false

/-- The steps of an exact division: k are left; what is left of a, and the quotient so far. -/
def eqGo (b : List Int) : Nat → List Int × List Int → Option (List Int × List Int)
  | 0, s => some s
  | k + 1, s =>
    if (s.1.getD (k + b.length - 1) 0).tmod (lastZ b) = 0 then
      if inB (-1000000) ((s.1.getD (k + b.length - 1) 0).tdiv (lastZ b)) 1000000 = true then
        eqGo b k (stB s.1 b ((s.1.getD (k + b.length - 1) 0).tdiv (lastZ b)) k b.length, s.2.set k ((s.1.getD (k + b.length - 1) 0).tdiv (lastZ b)))
      else none
    else none
def quoZ (a b : List Int) : Option (List Int) :=
  if zeroB a then some [0] else if a.length < b.length then none else
    match eqGo b (a.length - b.length + 1) (a, List.replicate (a.length - b.length + 1) 0) with
    | none => none
    | some (r, o) => if (∀ i, i < r.length → r.getD i 0 = 0) then some o else none
def quoR (a b : List Int) : List Int × Bool :=
  if (validB a && validB b && !zeroB b) = true then match quoZ a b with | none => ([], false) | some o => giveF (trimZ o) else ([], false)
theorem eqGo_len {b : List Int} : ∀ (k : Nat) {L O L' O' : List Int}, eqGo b k (L, O) = some (L', O') → L'.length = L.length ∧ O'.length = O.length
  | 0, L, O, L', O', h => by simp only [eqGo, Option.some.injEq, Prod.mk.injEq] at h; rw [h.1, h.2]; exact ⟨rfl, rfl⟩
  | k + 1, L, O, L', O', h => by
    unfold eqGo at h
    split at h
    · split at h
      · have h2 := eqGo_len k h
        rw [stB_length, List.length_set] at h2
        exact h2
      · cases h
    · cases h
theorem quoZ_len {a b o : List Int} (ha : Vld a) (hb : Vld b) (h : quoZ a b = some o) : o.length ≤ 17 ∧ o ≠ [] := by
  unfold quoZ at h
  split at h
  · cases h; simp
  · split at h
    · cases h
    · split at h
      · cases h
      · split at h
        · rename_i r o' he _
          cases h
          have h2 := (eqGo_len _ he).2
          simp only [List.length_replicate] at h2
          have := ha.len
          have := List.length_pos_iff.2 hb.ne
          exact ⟨by omega, fun h3 => by rw [h3] at h2; simp at h2⟩
        · cases h
theorem quoR_len (a b : List Int) : (quoR a b).1.length ≤ 17 := by
  unfold quoR
  split
  · split
    · simp
    · exact giveF_len _
  · simp
theorem stB_bdG {X b : List Int} {l M : Int} {s : Nat} (hX : BdI M X) (hM : 0 ≤ M) (hb : BdI 1000000 b) (hl : -1000000 ≤ l ∧ l ≤ 1000000) {k : Nat} (hk : s + k ≤ X.length) : BdI (M + 1000000000000) (stB X b l s k) := fun i => by
  rw [stB_get X b l s k hk i]
  have h1 := hX i
  have h2 := mul_bound (M := 1000000) (by omega) hl (hb (i - s))
  split <;> omega
theorem BdI.mono {M N : Int} {zs : List Int} (h : BdI M zs) (hm : M ≤ N) : BdI N zs := fun i => by have := h i; omega

set_option maxRecDepth 100000 in
set_option maxHeartbeats 4000000 in
theorem divide_ref (va vb : Value) (a b : List Int) (w : World) (ha : RdI w va a) (hb : RdI w vb b) (hva : Vld a) (hvb : Vld b) (hzb : zeroB b = false) : Calls Try.prog 139 #[va, vb] w (ROptL (quoZ a b) w) := by
  have ha1 : 0 < a.length := List.length_pos_iff.2 hva.ne
  have hb1 : 0 < b.length := List.length_pos_iff.2 hvb.ne
  have hla := hva.len
  have hlb := hvb.len
  have Ha := Lib.hid ha
  have Hva := Lib.hid hva
  have Hvb := Lib.hid hvb
  obtain ⟨ba, oa, ca, rfl, hsa, hca⟩ := ha.open hva.ne
  obtain ⟨bb, ob, cb, rfl, hsb, hcb⟩ := hb.open hvb.ne
  have Hcb := Lib.hid hcb
  have hlz := hvb.bd (b.length - 1)
  have hl0 := hvb.trd.last hzb
  have c0 := hcb (b.length - 1) (by omega)
  rw [← lastZ] at c0 hlz
  clear ha hb hca hcb hva hvb hzb
  cases hz : zeroB a
  · by_cases hab : a.length < b.length
    · have Hd := Lib.hid (show quoZ a b = none by rw [quoZ, hz, if_pos hab]; rfl)
      go_enter Try.func139, Try.ntmps139
      go_wp2_with fail
      (go_at_call 123; ((with_reducible refine (zero_spec _ a _ Ha.out (by omega)).mono ?_); rintro e w' ⟨rfl, rfl⟩))
      go_wp2_with fail
      go_ret2
      rw [Hd.out]
      exact ⟨_, rfl, (OwI.nil _ w.heap.size).rd, Below.refl _ _⟩
    · have hcnt : b.length ≤ a.length := by omega
      have Hz := Lib.hid hz
      have Hd := Lib.hid (show quoZ a b = match eqGo b (a.length - b.length + 1) (a, List.replicate (a.length - b.length + 1) 0) with
        | none => none
        | some (r, o) => if (∀ i, i < r.length → r.getD i 0 = 0) then some o else none by rw [quoZ, hz, if_neg (by simp), if_neg hab])
      go_enter Try.func139, Try.ntmps139
      go_wp2_with fail
      (go_at_call 123; ((with_reducible refine (zero_spec _ a _ Ha.out (by omega)).mono ?_); rintro e w' ⟨rfl, rfl⟩))
      go_wp2_with (first | (at_builtin; refine wpList_cloneR rfl _ _ rfl int64S_under Ha.out Hva.out.ne (by omega) rfl rfl rfl ?_; intro g1 cap1 w1 hg1 hr1 hbl1; have zl1 := hbl1.size; have lg1 := hr1.lt) | (at_make; refine wpList_makeI _ rfl _ _ _ rfl int64S_under _ _ (a.length - b.length + 1) rfl rfl (by omega) (by omega) (by omega) ?_; intro w2 hr2 hbl2 hlt2; have zl2 := hbl2.size))
      have Hbl := Lib.hid (hbl1.trans (hbl2.mono zl1))
      have Hr1 := Lib.hid (hr1.below hbl2)
      have Hr2 := Lib.hid (hr2.mono zl1)
      clear hr1 hr2 hz
      generalize hG : eqGo b (a.length - b.length + 1) (a, List.replicate (a.length - b.length + 1) 0) = G at *
      have HG := Lib.hid hG
      have Hl0 := Lib.hid hl0
      have Hc0 := Lib.hid (fun (w' : World) (h : Below w.heap.size w w') => (h.cell (p := ⟨bb, ob + (b.length - 1), none⟩) hsb).trans c0)
      clear hG c0 hl0
      go_loopw [9] (fun i wr => ∃ (k : Nat) (L O : List Int), k ≤ (a.length - b.length + 1) ∧ i = .int .i64 ((k : Int) - 1) ∧ RowI wr w.heap.size (.slice (some ⟨g1, 0, none⟩) a.length cap1) L ∧ RowI wr w.heap.size (.slice (some ⟨w1.heap.size, 0, none⟩) (a.length - b.length + 1) (a.length - b.length + 1)) O ∧ eqGo b k (L, O) = G ∧ BdI (1000000 + ((a.length - b.length + 1 - k : Nat) : Int) * 1000000000000) L ∧ L.length = a.length ∧ O.length = (a.length - b.length + 1) ∧ Below w.heap.size w wr) (fun i _ => (intOf i + 1).toNat)
      case atStart => exact ⟨(a.length - b.length + 1), a, _, Nat.le_refl _, by go_num, Hr1.out, Hr2.out, HG.out, Hva.out.bd.mono (by omega), rfl, by simp, Hbl.out⟩
      case round =>
        obtain ⟨k0, L, O, hk, rfl, hrL, hrO, hgo, hbd, hlL, hlO, hbel⟩ := hrel
        have HrO := Lib.hid hrO
        have HrL := Lib.hid hrL
        have Hbel := Lib.hid hbel
        have Hgo2 := Lib.hid hgo
        have Hbd := Lib.hid hbd
        clear hrL hrO hgo hbd
        cases k0 with
        | zero =>
          have HG2 := Lib.hid (show G = some (L, O) from Hgo2.out.symm)
          have Hd2 := Lib.hid (show quoZ a b = if (∀ i, i < L.length → L.getD i 0 = 0) then some O else none by rw [Hd.out, HG2.out])
          clear hbel
          go_wp2
          go_loopw [90] (fun i wr5 => ∃ k : Nat, k ≤ a.length ∧ i = .int .i64 k ∧ wr5 = wr ∧ ∀ j, j < k → L.getD j 0 = 0) (fun i _ => a.length - (intOf i).toNat)
          case atStart => exact ⟨0, Nat.zero_le _, rfl, rfl, fun j hj => absurd hj (by omega)⟩
          case round =>
            obtain ⟨k, hk, rfl, rfl, hall⟩ := hrel
            have Hall := Lib.hid hall
            clear hall
            by_cases hlt : k < a.length
            · have c1 := HrL.out.cell (j := k) (by omega)
              by_cases hzk : L.getD k 0 = 0
              · have Hzk := Lib.hid hzk
                rw [hzk] at c1
                clear hzk
                go_wp2
                go_roundw
                case rel =>
                  refine ⟨k + 1, by omega, by go_num, by first | rfl | trivial, fun j hj => ?_⟩
                  by_cases e : j = k
                  · subst e; exact Hzk.out
                  · exact Hall.out j (by omega)
                case measure => simp [intOf] <;> omega
              · have Hf := Lib.hid (show quoZ a b = none by rw [Hd2.out, if_neg]; exact fun h => hzk (h k (by omega)))
                have Hb5 := Hbel.out
                generalize L.getD k 0 = z at *
                have hzk2 : (z == 0) = false := by simpa using hzk
                go_wp2
                go_ret2
                rw [Hf.out]
                exact ⟨_, rfl, (OwI.nil _ w.heap.size).rd, Hb5⟩
            · obtain rfl : k = a.length := by omega
              have Hf := Lib.hid (show quoZ a b = some O by rw [Hd2.out, if_pos]; exact fun i hi => Hall.out i (by omega))
              have Hb5 := Hbel.out
              go_wp2
              go_ret2
              rw [Hf.out]
              exact ⟨_, rfl, HrO.out.own.rd, Hb5⟩
        | succ k =>
          have c2 := HrL.out.cell (j := k + b.length - 1) (by omega)
          have hl := Hbd.out (k + b.length - 1)
          have hN : ((a.length - b.length + 1 - (k + 1) : Nat) : Int) ≤ 17 := by omega
          have c0 := Hc0.out _ hbel
          have hle : -18000000000000 ≤ L.getD (k + b.length - 1) 0 ∧ L.getD (k + b.length - 1) 0 ≤ 18000000000000 := by omega
          have Hgo3 := Hgo2.out
          unfold eqGo at Hgo3
          have Hgo4 := Lib.hid Hgo3
          have HlbE := Lib.hid (show lastZ b = lastZ b from rfl)
          generalize hlL2 : L.getD (k + b.length - 1) 0 = l at *
          have HlL2 := Lib.hid hlL2
          generalize lastZ b = lb at *
          have hl0 := Hl0.out
          have hl00 : ¬ (lb = 0) := hl0
          have htd := tdiv_bd (g := lb) hle
          clear Hgo3 hlL2 hl hbel
          rw [show (((k + 1 : Nat) : Int) - 1) = (k : Int) by omega]
          by_cases h1 : l.tmod lb = 0
          · cases hin : inB (-1000000) (l.tdiv lb) 1000000
            · have Hf := Lib.hid (show quoZ a b = none by
                have h := Hgo4.out
                rw [if_pos h1, if_neg (by rw [hin]; simp)] at h
                rw [Hd.out, ← h])
              have Hb5 := Hbel.out
              go_wp2_with fail
              (go_at_call 109; ((with_reducible refine (in_spec _ _ _ _).mono ?_); rintro e w' ⟨rfl, rfl⟩))
              go_wp2_with fail
              go_ret2
              rw [Hf.out]
              exact ⟨_, rfl, (OwI.nil _ w.heap.size).rd, Hb5⟩
            · have Hgo5 := Lib.hid (show eqGo b k (stB L b (l.tdiv lb) k b.length, O.set k (l.tdiv lb)) = G by
                have h := Hgo4.out
                rw [if_pos h1, if_pos hin] at h
                exact h)
              have hq := inB_true.1 hin
              have c3 := HrO.out.cell (j := k) (by omega)
              have c4 := HrO.out.frozen k
              have Hb5 := Hbel.out
              generalize O.getD k 0 = oldq at c3
              go_wp2_with fail
              (go_at_call 109; ((with_reducible refine (in_spec _ _ _ _).mono ?_); rintro e w' ⟨rfl, rfl⟩))
              generalize l.tdiv lb = q at *
              go_wp2
              clear h1 hin hl00 hl0 htd hle
              go_loopw [70] (fun jj w3 => ∃ j : Nat, j ≤ b.length ∧ jj = .int .i64 j ∧ RowI w3 w.heap.size (.slice (some ⟨g1, 0, none⟩) a.length cap1) (stB L b q k j) ∧ RowI w3 w.heap.size (.slice (some ⟨w1.heap.size, 0, none⟩) (a.length - b.length + 1) (a.length - b.length + 1)) (O.set k q) ∧ Below w.heap.size w w3) (fun jj _ => b.length - (intOf jj).toNat)
              case atStart => exact ⟨0, Nat.zero_le _, rfl, HrL.out.setOther (by simp; omega) _, HrO.out.set k q, by have h := Hbel.out; (repeat' (first | (with_reducible exact Below.refl _ _) | (with_reducible assumption) | (with_reducible refine Below.alloc ?_ ?_ _) | (with_reducible refine Below.setCell ?_ ?_ _) | (with_reducible refine Below.drew ?_) | (with_reducible refine Below.via (by assumption) ?_ ?_) | go_size))⟩
              case round =>
                obtain ⟨j, hj, rfl, hrL2, hrO2, hbel2⟩ := hrel
                have HrL2 := Lib.hid hrL2
                have HrO2 := Lib.hid hrO2
                have Hbel2 := Lib.hid hbel2
                clear hrL2 hrO2
                by_cases hlt : j < b.length
                · have hls : (stB L b q k j).length = a.length := by rw [stB_length, hlL]
                  have c5 := HrL2.out.cell (j := k + j) (by omega)
                  have c6 := HrL2.out.frozen (k + j)
                  have c7 := (hbel2.cell (p := ⟨bb, ob + j, none⟩) hsb).trans (Hcb.out j hlt)
                  have hX := stB_bdG Hbd.out (by omega) Hvb.out.bd hq (s := k) (k := j) (by omega) (k + j)
                  have hp := mul_bound (M := 1000000) (by omega) hq (Hvb.out.bd j)
                  have H2 := Lib.hid (HrL2.out.set (k + j) ((stB L b q k j).getD (k + j) 0 - q * b.getD j 0))
                  have H3 := Lib.hid (show stB L b q k (j + 1) = (stB L b q k j).set (k + j) ((stB L b q k j).getD (k + j) 0 - q * b.getD j 0) from rfl)
                  clear hbel2
                  generalize (stB L b q k j).getD (k + j) 0 = l2 at *
                  generalize b.getD j 0 = y at *
                  have q1 : IntKind.i64.wrap ((k : Int) + j) = (k : Int) + j := IntWalk.i64_in _ ⟨by omega, by omega⟩
                  have q2 : (k : Int) + j < (a.length : Int) := by omega
                  have q3 : ((k : Int) + j).toNat = k + j := by omega
                  have q4 : IntKind.i64.wrap (q * y) = q * y := IntWalk.i64_in _ ⟨by omega, by omega⟩
                  have q5 : IntKind.i64.wrap (l2 - q * y) = l2 - q * y := IntWalk.i64_in _ ⟨by omega, by omega⟩
                  have q6 : (0 : Int) ≤ (k : Int) + j := by omega
                  go_wp2
                  (refine wp_region_still_tail 14 (by kernel_rfl) (by kernel_rfl) ?_; simp only [List.take_succ_cons, List.take_zero, List.drop_succ_cons, List.drop_zero]; repeat still_step; (try refine wpStill_nil ?_))
                  change wpList _ _ _ _ _ (World.drew _)
                  go_wp2
                  go_roundw
                  case rel =>
                    refine ⟨j + 1, by omega, by go_num, ?_, ?_, ?_⟩
                    · rw [H3.out]; exact H2.out
                    · exact HrO2.out.setOther (by simp; omega) _
                    · have h3 := Hbel2.out; (repeat' (first | (with_reducible exact Below.refl _ _) | (with_reducible assumption) | (with_reducible refine Below.alloc ?_ ?_ _) | (with_reducible refine Below.setCell ?_ ?_ _) | (with_reducible refine Below.drew ?_) | (with_reducible refine Below.via (by assumption) ?_ ?_) | go_size))
                  case measure => simp [intOf] <;> omega
                · obtain rfl : j = b.length := by omega
                  clear hbel2
                  go_wp2
                  go_roundw
                  case rel =>
                    exact ⟨k, _, _, by omega, by go_num, HrL2.out, HrO2.out, Hgo5.out, (stB_bdG Hbd.out (by omega) Hvb.out.bd hq (by omega)).mono (by omega), by rw [stB_length, hlL], by rw [List.length_set, hlO], Hbel2.out⟩
                  case measure => simp [intOf] <;> omega
          · have Hf := Lib.hid (show quoZ a b = none by
              have h := Hgo4.out
              rw [if_neg h1] at h
              rw [Hd.out, ← h])
            have Hb5 := Hbel.out
            have h12 : (l.tmod lb == 0) = false := by simpa using h1
            go_wp2
            go_ret2
            rw [Hf.out]
            exact ⟨_, rfl, (OwI.nil _ w.heap.size).rd, Hb5⟩
  · have Hd := Lib.hid (show quoZ a b = some [0] by rw [quoZ, hz]; rfl)
    go_enter Try.func139, Try.ntmps139
    go_wp2_with fail
    (go_at_call 123; ((with_reducible refine (zero_spec _ a _ Ha.out (by omega)).mono ?_); rintro e w' ⟨rfl, rfl⟩))
    go_wp2_with fail
    go_ret2
    rw [Hd.out]
    exact ⟨_, rfl, (OwI.litS rfl (Nat.le_refl _)).rd, by (repeat' (first | (with_reducible exact Below.refl _ _) | (with_reducible assumption) | (with_reducible refine Below.alloc ?_ ?_ _) | (with_reducible refine Below.setCell ?_ ?_ _) | (with_reducible refine Below.drew ?_) | (with_reducible refine Below.via (by assumption) ?_ ?_) | go_size))⟩

end Go.Proofs.Ytlnjkjogedbhfaa
