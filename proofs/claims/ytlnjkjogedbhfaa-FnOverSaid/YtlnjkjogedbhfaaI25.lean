/- The greatest common whole: the reference's walk. Conditions: valid wholes. -/
import Derived.Test.YtlnjkjogedbhfaaI24
import Derived.Deep.DeepCutAuto
namespace Go.Proofs.Ytlnjkjogedbhfaa
open Go Go.RowKit
set_option linter.unusedSimpArgs false
set_option linter.unusedVariables false

/-- The greatest common one with its content, untrimmed; none if a number becomes too great. -/
def greatZ (a b : List Int) : Option (List Int) := (gcdW (pairZ (primZ a) (primZ b)).1 (pairZ (primZ a) (primZ b)).2).map (timesZ (gcZ (contZ a) (contZ b)))
theorem greatZ_none {a b : List Int} (h : gcdW (pairZ (primZ a) (primZ b)).1 (pairZ (primZ a) (primZ b)).2 = none) : greatZ a b = none := by rw [greatZ, h]; rfl
theorem greatZ_some {a b g : List Int} (h : gcdW (pairZ (primZ a) (primZ b)).1 (pairZ (primZ a) (primZ b)).2 = some g) : greatZ a b = some (timesZ (gcZ (contZ a) (contZ b)) g) := by rw [greatZ, h]; rfl
theorem commonW_eq {a b : List Int} (h : (validB a && validB b) = true) : commonW a b = match greatZ a b with | none => ([], false) | some g => giveF (trimZ g) := by
  rw [commonW, if_pos h, greatZ]
  cases gcdW (pairZ (primZ a) (primZ b)).1 (pairZ (primZ a) (primZ b)).2 <;> rfl
theorem contZ_bd {zs : List Int} (h : Vld zs) : 0 ≤ contZ zs ∧ contZ zs ≤ 1000000 := contN_bd (by omega) h.bd zs.length
def GL (w : World) (G : Option (List Int)) (g : Nat) (va vb : Value) (wr : World) : Prop :=
  ∃ A B, RdI wr va A ∧ RdI wr vb B ∧ Vld A ∧ Vld B ∧ gcdW A B = G ∧ meas B = g ∧ Below w.heap.size w wr

set_option maxRecDepth 100000 in
set_option maxHeartbeats 4000000 in
theorem great_ref (va vb : Value) (a b : List Int) (w : World) (ha : RdI w va a) (hb : RdI w vb b) (hva : Vld a) (hvb : Vld b) : Calls Try.prog 110 #[va, vb] w (ROptL (greatZ a b) w) := by
  have Ha := Lib.hid ha
  have Hb := Lib.hid hb
  have hla := hva.len
  have hlb := hvb.len
  have Hva := Lib.hid hva
  have Hvb := Lib.hid hvb
  have hca := contZ_bd hva
  have hcb := contZ_bd hvb
  obtain ⟨aoa, ca, rfl⟩ := ha.shape
  obtain ⟨aob, cb, rfl⟩ := hb.shape
  have HvA0 := Lib.hid (prim_vld hva)
  have HvB0 := Lib.hid (prim_vld hvb)
  have hgc : 0 ≤ gcZ (contZ a) (contZ b) ∧ gcZ (contZ a) (contZ b) ≤ 1000000 := ⟨gcZ_nonneg _ _, gcZ_le (by omega) (by omega)⟩
  clear ha hb hva hvb
  go_enter Try.func110, Try.ntmps110
  go_wp2_with fail
  (go_at_call 136; ((with_reducible refine (content_spec _ a _ Ha.out (by omega) Hva.out.bd).mono ?_); rintro e w' ⟨rfl, rfl⟩))
  go_wp2_with fail
  (go_at_call 136; ((with_reducible refine (content_spec _ b _ Hb.out (by omega) Hvb.out.bd).mono ?_); rintro e w' ⟨rfl, rfl⟩))
  go_wp2_with fail
  (go_at_call 135; ((with_reducible refine (gcd_spec _ _ _ ⟨by omega, by omega⟩ ⟨by omega, by omega⟩).mono ?_); rintro e w' ⟨rfl, rfl⟩))
  go_wp2_with fail
  (go_at_call 113; ((with_reducible refine (prim_spec _ a _ Ha.out Hva.out.ne (by omega) Hva.out.bd).mono ?_); rintro e w1 ⟨v1, rfl, ho1, hb1⟩))
  obtain ⟨ao1, c1, rfl⟩ := ho1.rd.shape
  go_wp2_with fail
  (go_at_call 113; ((with_reducible refine (prim_spec _ b _ (Hb.out.below hb1) Hvb.out.ne (by omega) Hvb.out.bd).mono ?_); rintro e w2 ⟨v2, rfl, ho2, hb2⟩))
  obtain ⟨ao2, c2, rfl⟩ := ho2.rd.shape
  have R1 := Lib.hid (ho1.rd.below hb2)
  have R2 := Lib.hid ho2.rd
  have Hb2 := Lib.hid (hb1.trans (hb2.mono hb1.size))
  have HN := Lib.hid (greatZ_none (a := a) (b := b))
  have HS := Lib.hid (fun g => greatZ_some (a := a) (b := b) (g := g))
  clear ho1 ho2 hb1 hb2
  generalize primZ a = A0 at *
  generalize primZ b = B0 at *
  generalize greatZ a b = R at *
  generalize gcZ (contZ a) (contZ b) = c at *
  have hl1 := HvA0.out.len
  have hl2 := HvB0.out.len
  go_upto_if 28 with fail
  go_cut [7, 8] (fun s7 s8 wx => wx = w2 ∧ ((A0.length < B0.length ∧ s7 = .slice ao2 B0.length c2 ∧ s8 = .slice ao1 A0.length c1) ∨ (¬ A0.length < B0.length ∧ s7 = .slice ao1 A0.length c1 ∧ s8 = .slice ao2 B0.length c2)))
  case first =>
    by_cases hlt : A0.length < B0.length
    · go_wp2_with fail
      go_meet
      exact ⟨rfl, .inl ⟨hlt, rfl, rfl⟩⟩
    · go_wp2_with fail
      go_meet
      exact ⟨rfl, .inr ⟨hlt, rfl, rfl⟩⟩
  case rest =>
    obtain ⟨rfl, hcase⟩ := hcut
    obtain ⟨A1, B1, p1, n1, p2, n2, hR1, hR2, hv1, hv2, hpr, e7, e8⟩ : ∃ A1 B1 p1 n1 p2 n2, RdI wc (.slice p1 A1.length n1) A1 ∧ RdI wc (.slice p2 B1.length n2) B1 ∧ Vld A1 ∧ Vld B1 ∧ pairZ A0 B0 = (if zeroB A1 = true then (B1, A1) else (A1, B1)) ∧ u7 = .slice p1 A1.length n1 ∧ u8 = .slice p2 B1.length n2 := by
      rcases hcase with ⟨h1, h2, h3⟩ | ⟨h1, h2, h3⟩
      · refine ⟨B0, A0, _, _, _, _, R2.out, R1.out, HvB0.out, HvA0.out, ?_, h2, h3⟩
        rw [pairZ, if_pos (.inl h1), if_neg]
        intro h
        rw [zeroB_iff.1 h] at h1
        have := List.length_pos_iff.2 HvA0.out.ne
        simp at h1
        exact HvA0.out.ne h1
      · refine ⟨A0, B0, _, _, _, _, R1.out, R2.out, HvA0.out, HvB0.out, ?_, h2, h3⟩
        rw [pairZ]
        by_cases hz : zeroB A0 = true
        · rw [if_pos (.inr hz), if_pos hz]
        · rw [if_neg (by rintro (h | h); exact h1 h; exact hz h), if_neg hz]
    subst e7 e8
    have HR1 := Lib.hid hR1
    have HR2 := Lib.hid hR2
    have Hv1 := Lib.hid hv1
    have Hv2 := Lib.hid hv2
    have Hpr := Lib.hid hpr
    have hm1 := hv1.len
    have hm2 := hv2.len
    clear hcase hR1 hR2 hv1 hv2 hpr
    go_wp2_with fail
    (go_at_call 123; ((with_reducible refine (zero_spec _ A1 _ HR1.out (by omega)).mono ?_); rintro e w' ⟨rfl, rfl⟩))
    go_upto_if 33 with fail
    go_cut [7, 8] (fun s7 s8 wx => wx = wc ∧ ∃ A B p1 n1 p2 n2, RdI wc (.slice p1 A.length n1) A ∧ RdI wc (.slice p2 B.length n2) B ∧ Vld A ∧ Vld B ∧ pairZ A0 B0 = (A, B) ∧ s7 = .slice p1 A.length n1 ∧ s8 = .slice p2 B.length n2)
    case first =>
      cases hz : zeroB A1
      · go_wp2_with fail
        go_meet
        exact ⟨rfl, A1, B1, _, _, _, _, HR1.out, HR2.out, Hv1.out, Hv2.out, by rw [Hpr.out, hz]; rfl, rfl, rfl⟩
      · go_wp2_with fail
        go_meet
        exact ⟨rfl, B1, A1, _, _, _, _, HR2.out, HR1.out, Hv2.out, Hv1.out, by rw [Hpr.out, hz]; rfl, rfl, rfl⟩
    case rest =>
      obtain ⟨rfl, A, B, p1, n1, p2, n2, hR1, hR2, hv1, hv2, hpr, rfl, rfl⟩ := hcut
      have HR1 := Lib.hid hR1
      have HR2 := Lib.hid hR2
      have Hv1 := Lib.hid hv1
      have Hv2 := Lib.hid hv2
      have HN2 := Lib.hid (show gcdW A B = none → R = none by have h := HN.out; rw [hpr] at h; exact h)
      have HS2 := Lib.hid (show ∀ g, gcdW A B = some g → R = some (timesZ c g) by have h := HS.out; rw [hpr] at h; exact h)
      clear hR1 hR2 hv1 hv2 hpr
      go_wp2_with fail
      go_loopg [7, 8] (meas B) (fun g u v wr => GL w (gcdW A B) g u v wr)
      case atStart => exact ⟨A, B, HR1.out, HR2.out, Hv1.out, Hv2.out, rfl, rfl, Hb2.out⟩
      case round =>
        generalize gcdW A B = G at *
        clear HR1 HR2 Hv1 Hv2
        obtain ⟨A, B, hA, hB, hvA, hvB, hgc2, hme, hbel⟩ := hrel
        have hA' := Lib.hid hA
        have hB' := Lib.hid hB
        have Hgc := Lib.hid hgc2
        have Hme := Lib.hid hme
        have HvA := Lib.hid hvA
        have HvB := Lib.hid hvB
        obtain ⟨aoA, cA, rfl⟩ := hA.shape
        obtain ⟨aoB, cB, rfl⟩ := hB.shape
        have hl3 := hvA.len
        have hl4 := hvB.len
        have Hbz := Lib.hid hbel
        clear hA hB hgc2 hme hvA hvB
        have hsz := hbel.size
        cases hz : zeroB B
        · have Hz := Lib.hid hz
          go_wp2_with fail
          (go_at_call 123; ((with_reducible refine (zero_spec _ B _ hB'.out (by omega)).mono ?_); rintro e w' ⟨rfl, rfl⟩))
          go_wp2_with fail
          (go_at_call 137; ((with_reducible refine (rest_ref _ _ A B _ hA'.out hB'.out HvA.out HvB.out).mono ?_); rintro e w4 ⟨v4, rfl, hr4, hb4⟩))
          obtain ⟨p4, n4, rfl⟩ := hr4.shape
          cases hre : restZ A B with
          | none =>
            have Hf := Lib.hid (HN2.out (by rw [← Hgc.out]; exact gcdW_none Hz.out hre))
            clear hz
            simp only [hre, Option.isSome_none, Option.getD_none, List.length_nil] at *
            go_wp2_with fail
            go_ret2
            rw [Hf.out]
            exact ⟨_, rfl, (OwI.nil _ w.heap.size).rd, hbel.trans (hb4.mono (by omega))⟩
          | some r =>
            have Hgo := Lib.hid (show gcdW B (primZ r) = G by rw [← gcdW_go HvA.out HvB.out Hz.out hre]; exact Hgc.out)
            have hvr := (restZ_vld HvB.out.ne (Nat.lt_succ_self _) HvA.out hre)
            have Hvr := Lib.hid hvr
            have hl5 := hvr.1.len
            have Hr4 := Lib.hid (show RdI w4 (.slice p4 ((some r).getD []).length n4) r by have h := hr4; rw [hre] at h; exact h)
            clear hz hvr hr4
            simp only [hre, Option.isSome_some, Option.getD_some] at *
            go_wp2_with fail
            (go_at_call 113; ((with_reducible refine (prim_spec _ r _ Hr4.out Hvr.out.1.ne (by omega) Hvr.out.1.bd).mono ?_); rintro e w5 ⟨v5, rfl, ho5, hb5⟩))
            have Ho5 := Lib.hid ho5
            have hb45 := hb4.trans (hb5.mono hb4.size)
            obtain ⟨p5, n5, rfl⟩ := ho5.rd.shape
            clear ho5
            go_wp2_with fail
            go_roundg (meas (primZ r))
            case measure => rw [← Hme.out]; exact (prim_meas Hz.out Hvr.out.1.trd Hvr.out.2).resolve_right HvB.out.ne
            case rel =>
              exact ⟨B, primZ r, hB'.out.below hb45, Ho5.out.rd, HvB.out, prim_vld Hvr.out.1, Hgo.out, rfl, hbel.trans (hb45.mono (by omega))⟩
        · have Hd0 := Lib.hid (HS2.out A (by rw [← Hgc.out]; exact gcdW_stop hz))
          have hnA := HvA.out.ne
          obtain ⟨wz, rfl⟩ : ∃ x, x = wr := ⟨_, rfl⟩
          obtain ⟨bA, oA, cA2, hAe, hAb, hAc⟩ := hA'.out.open hnA
          simp only [Value.slice.injEq, true_and] at hAe
          obtain ⟨rfl, rfl⟩ := hAe
          have Hc := Lib.hid (fun (w' : World) (h : Below wz.heap.size wz w') i (hi : i < A.length) => (h.cell (p := ⟨bA, oA + i, none⟩) hAb).trans (hAc i hi))
          have Hcc := Lib.hid (show -1000000 ≤ c ∧ c ≤ 1000000 by omega)
          have Hd := Lib.hid (show R = some (buildZ (fun k => c * A.getD k 0) A.length) by rw [Hd0.out, build_map (fun z => c * z)]; rfl)
          go_wp2_with fail
          (go_at_call 123; ((with_reducible refine (zero_spec _ B _ hB'.out (by omega)).mono ?_); rintro e w' ⟨rfl, rfl⟩))
          have hwz := hsz
          clear hAc hbel hsz
          go_wp2
          clear hz
          go_loopw [13, 54] (fun ov i wr => ∃ k : Nat, k ≤ A.length ∧ i = .int .i64 k ∧ RowI wr wz.heap.size ov (buildZ (fun k => c * A.getD k 0) k) ∧ Below wz.heap.size wz wr) (fun _ i _ => A.length - (intOf i).toNat)
          case atStart => exact ⟨0, Nat.zero_le _, rfl, RowI.emptyB (by simp) (by simp <;> omega), by (repeat' (first | (with_reducible exact Below.refl _ _) | (with_reducible assumption) | (with_reducible refine Below.alloc ?_ ?_ _) | (with_reducible refine Below.setCell ?_ ?_ _) | (with_reducible refine Below.drew ?_) | (with_reducible refine Below.via (by assumption) ?_ ?_) | go_size))⟩
          case round =>
            obtain ⟨k, hk, rfl, hrow, hbel⟩ := hrel
            by_cases hlt : k < A.length
            · have hsz := hbel.size
              have hlen : (buildZ (fun k => c * A.getD k 0) k).length ≤ 1099511627776 := by rw [buildZ_length]; omega
              have Hn := Lib.hid (show buildZ (fun k => c * A.getD k 0) k ++ [c * A.getD k 0] = buildZ (fun k => c * A.getD k 0) (k + 1) from buildZ_succ _ k)
              have c1 := Hc.out wr hbel k hlt
              have hz := HvA.out.bd k
              have hp := mul_bound (M := 1000000) (by omega) Hcc.out hz
              generalize A.getD k 0 = z at *
              have q4 : IntKind.i64.wrap (c * z) = c * z := IntWalk.i64_in _ ⟨by omega, by omega⟩
              go_wp2_with (at_builtin; refine wpList_pushI hrow rfl _ _ rfl int64S_under hlen (by first | omega | (simp only [World.size_alloc]; omega)) rfl rfl ?_; intro v1 w1 hr1 hb1)
              go_roundw
              case rel => exact ⟨k + 1, by omega, by go_num, by rw [← Hn.out]; exact hr1, hbel.trans (hb1.mono (by omega))⟩
              case measure => simp [intOf]; omega
            · obtain rfl : k = A.length := by omega
              have hsz := hbel.size
              have Hrow := Lib.hid hrow.own
              have hb9 := Hbz.out.trans (hbel.mono (by omega))
              clear hrow
              go_wp2_with fail
              go_ret2
              rw [Hd.out]
              exact ⟨_, rfl, Hrow.out.rd, hb9⟩

end Go.Proofs.Ytlnjkjogedbhfaa
