/- Narrowing a box to one that has roots, of the reference. Conditions: nothing is too great and no value is 0 around the boxes on the way. -/
import Derived.Test.YtklonahkacikbaaU18
namespace Go.Proofs.Ytklonahkacikbaa
open Go Go.RowKit
set_option linter.unusedSimpArgs false
set_option linter.unusedVariables false

set_option maxRecDepth 100000 in
set_option maxHeartbeats 8000000 in
theorem narrow_box_spec (v : Value) (rs : List C2) (n : Nat) (lo hi : C2) (st tm : Nat) (w : World) (hv : RdV w v (cx rs)) (hn : rs.length = n + 1) (h1 : 1 ≤ n) (h2 : n ≤ 16) (ht : tm ≤ 20) (hlo : nc lo = lo) (hhi : nc hi = hi) (s4 : 4 ≤ st) (s60 : st ≤ 60) (hr : rootedF (rs.map nc) = true) (hb : boxF lo hi = true)
    (H : ∀ k, k < tm → ∀ b, iterB (rs.map nc) n st (lo, hi) k = some b → FourOk (rs.map nc) b.1 b.2 st) :
    Calls Try.prog 14 #[.agg #[v], .complex .f32 lo.1 lo.2, .complex .f32 hi.1 hi.2, .int .i64 (st : Int), .int .i64 (tm : Int)] w (RetNB (iterB (rs.map nc) n st (lo, hi) tm) w) := by
  obtain ⟨ao, cap, rfl, _⟩ := hv.shape
  rw [cx_length, hn] at hv ⊢
  have I2 := Lib.hid (show inB 0 (tm : Int) 20 = true by simp [inB]; omega)
  have xp0 : (w.alloc (.cells #[.slice ao (n + 1) cap] 28)).cell? ⟨w.heap.size, 0, none⟩ = some (.slice ao (n + 1) cap) := (World.cell?_alloc_new w #[.slice ao (n + 1) cap] 28 0 : _)
  have hv1 := hv.alloc (.cells #[.slice ao (n + 1) cap] 28)
  have B0 := Lib.hid (show Below w.heap.size w (w.alloc (.cells #[.slice ao (n + 1) cap] 28)) from (Below.refl _ _).alloc (Nat.le_refl _) _)
  have BS := Lib.hid (boxed_spec w.heap.size (.slice ao (n + 1) cap) rs lo hi st _ xp0 hv1 (by omega) (by omega) hr (by rw [hlo, hhi]; exact hb) s4 s60)
  have FI := Lib.hid (fun (b : C2 × C2) (hb : FourOk (rs.map nc) b.1 b.2 st) w1 hx hv => four05_spec w.heap.size (.slice ao (n + 1) cap) rs n b.1 b.2 st w1 hx hv hn h2 hb)
  have HH := Lib.hid H
  have z0 : (w.alloc (.cells #[.slice ao (n + 1) cap] 28)).heap.size = w.heap.size + 1 := by simp
  generalize rs.map nc = F at *
  clear hv h1 h2 H hr hb hlo hhi
  go_enter Try.func14, Try.ntmps14
  go_wp2_with fail
  (go_at_call 34; ((with_reducible refine (BS.out).mono ?_); rintro e w1 ⟨m1, rfl, rfl⟩))
  have Xp := Lib.hid (show ((w.alloc (.cells #[.slice ao (n + 1) cap] 28)).drewN m1).cell? ⟨w.heap.size, 0, none⟩ = some (.slice ao (n + 1) cap) from xp0)
  have Hv := Lib.hid (hv1.below (below_drewN (Below.refl _ _) m1))
  have BB := Lib.hid (show Below w.heap.size w ((w.alloc (.cells #[.slice ao (n + 1) cap] 28)).drewN m1) from below_drewN B0.out m1)
  have lp : w.heap.size < ((w.alloc (.cells #[.slice ao (n + 1) cap] 28)).drewN m1).heap.size := by
    show w.heap.size < (w.alloc (.cells #[.slice ao (n + 1) cap] 28)).heap.size
    omega
  generalize ((w.alloc (.cells #[.slice ao (n + 1) cap] 28)).drewN m1) = W at *
  clear BS B0 xp0 hv1 z0
  go_wp2_with (go_at_call 37; ((with_reducible refine (in_spec _ _ _ _).mono ?_); rintro e w3 ⟨rfl, rfl⟩; rw [I2.out]))
  go_loopw [1, 2, 4] (fun lv hv kv wr => ∃ (k : Nat) (b : C2 × C2), k ≤ tm ∧ kv = .int .i64 ((tm : Int) - (k : Int)) ∧ lv = .complex .f32 b.1.1 b.1.2 ∧ hv = .complex .f32 b.2.1 b.2.2 ∧ iterB F n st (lo, hi) k = some b ∧ Below W.heap.size W wr) (fun _ _ kv _ => (intOf kv).toNat)
  case atStart => exact ⟨0, (lo, hi), by omega, by simp, rfl, rfl, rfl, Below.refl _ _⟩
  case round =>
    obtain ⟨k, b, hk, rfl, rfl, rfl, hit, hbel⟩ := hrel
    have hsz := hbel.size
    by_cases hlt : k < tm
    · have j1 : (0 : Int) < (tm : Int) - (k : Int) := by omega
      have xp := (hbel.cell (p := ⟨w.heap.size, 0, none⟩) lp).trans Xp.out
      have FO := Lib.hid (HH.out k hlt b hit)
      have HS0 := Lib.hid (show iterB F n st (lo, hi) (k + 1) = stepB F n st b by show (iterB F n st (lo, hi) k).bind _ = _; rw [hit]; rfl)
      have HN0 := Lib.hid (fun h : iterB F n st (lo, hi) (k + 1) = none => show iterB F n st (lo, hi) tm = none by
        have := iterB_none h (tm - (k + 1))
        rwa [show k + 1 + (tm - (k + 1)) = tm by omega] at this)
      have FIk := Lib.hid (FI.out b FO.out wr xp (Hv.out.below hbel))
      have HQ := Lib.hid (fun w1 => quarters_spec b.1 b.2 FO.out.ln FO.out.hn FO.out.mid w1)
      have Hbel := Lib.hid hbel
      have SB := Lib.hid (show stepB F n st b = if (fourR n (TQ F b.1 b.2 st)).2 = true ∧ 0 ≤ posI (fourR n (TQ F b.1 b.2 st)).1 then some (qLo b.1 b.2 (posI (fourR n (TQ F b.1 b.2 st)).1).toNat, qHi b.1 b.2 (posI (fourR n (TQ F b.1 b.2 st)).1).toNat) else none from rfl)
      have PL := Lib.hid (fun h => pos_lt4 (d := (n : Int)) (T := TQ F b.1 b.2 st) h)
      have LE := Lib.hid (fourR_len (n : Int) (TQ F b.1 b.2 st)).2
      have qt : IntKind.i64.wrap ((tm : Int) - (k : Int) - 1) = (tm : Int) - ((k + 1 : Nat) : Int) := by rw [IntWalk.i64_in _ ⟨by omega, by omega⟩]; omega
      have QT := Lib.hid qt
      clear hit hbel FI FO qt xp
      generalize fourR (n : Int) (TQ F b.1 b.2 st) = fr at *
      generalize stepB F n st b = sb at *
      obtain ⟨zs, ok⟩ := fr
      go_wp2_with fail
      (go_at_call 35; ((with_reducible refine (FIk.out).mono ?_); rintro e W4 ⟨v4, rfl, hrd, hb4⟩))
      have Hb4 := Lib.hid (Hbel.out.trans (hb4.mono hsz))
      have hs4 := Hb4.out.size
      have Hrd := Lib.hid hrd
      clear hrd hb4 FIk Hbel
      cases ok
      · have HS := Lib.hid (show iterB F n st (lo, hi) tm = none from HN0.out (by rw [HS0.out, SB.out, if_neg (by simp)]))
        have HBB := Lib.hid (BB.out.trans (Hb4.out.mono (show w.heap.size ≤ W.heap.size by omega)))
        clear PL SB HS0 HN0 Hrd HQ LE
        go_wp2_with fail
        go_ret3
        rw [HS.out]
        exact ⟨_, _, _, _, rfl, fun x hx => (by cases hx), HBB.out⟩
      · have hz4 : zs.length = 4 := LE.out rfl
        have Hrd2 : RdV W4 v4 (gi zs) := Hrd.out
        rcases Hrd2.openI with ⟨h, _⟩ | ⟨b4, f4, cap4, rfl, hbb4, hcp4, hc4⟩
        · have h0 : zs = [] := h
          rw [h0] at hz4; simp at hz4
        rw [hz4] at hc4 ⊢
        have PZ := Lib.hid (show posI zs = posN zs 4 by unfold posI; rw [hz4])
        have PS := Lib.hid (fun i => show posN zs (i + 1) = if 0 ≤ posN zs i then posN zs i else if 0 < zs.getD i 0 then (i : Int) else -1 from rfl)
        have PB := Lib.hid (fun i => posN_lt zs i)
        go_wp2_with fail
        (go_at_call 38; ((with_reducible refine (HQ.out _).mono ?_); rintro e W5 ⟨g, h, rfl, hg1, hg2, hh1, hh2, hb5, hcl⟩))
        have HC5 := Lib.hid (fun i (hi : i < 4) => (hb5.cell (p := ⟨b4, f4 + i, none⟩) hbb4).trans (hc4 i hi))
        have HCL := Lib.hid hcl
        have HB5 := Lib.hid (Hb4.out.trans (hb5.mono (show W.heap.size ≤ W4.heap.size by omega)))
        have hs5 := HB5.out.size
        have Hpos := Lib.hid (show posN zs 0 = -1 from rfl)
        generalize posN zs = pz at *
        clear hcl hb5 HQ hc4 hcp4 Hrd LE hz4
        go_wp2_with fail
        go_loopw [17, 50] (fun av iv wr => ∃ (i : Nat), i ≤ 4 ∧ iv = .int .i64 (i : Int) ∧ av = .int .i64 (pz i) ∧ wr = W5) (fun _ iv _ => 4 - (intOf iv).toNat)
        case atStart => exact ⟨0, by omega, rfl, by rw [Hpos.out], rfl⟩
        case round =>
          obtain ⟨i, hi4, rfl, rfl, rfl⟩ := hrel
          by_cases hi5 : i < 4
          · have k1 : (i : Int) < 4 := by omega
            have k0 : (0 : Int) ≤ (i : Int) := by omega
            have c1 := HC5.out i hi5
            have HS1 := Lib.hid (PS.out i)
            obtain ⟨p1, p2, p3⟩ := PB.out i
            generalize zs.getD i 0 = z at *
            generalize hpi : pz i = pi at *
            by_cases hz : 0 < z
            · by_cases hpp : pi < 0
              · have HE := Lib.hid (show pz (i + 1) = (i : Int) by rw [HS1.out, if_neg (by omega), if_pos hz])
                clear p1 p2 p3
                go_wp2_with fail
                go_roundw
                case rel => exact ⟨i + 1, by omega, by go_num, by rw [HE.out], by first | trivial | rfl⟩
                case measure => simp [intOf]; omega
              · have HE := Lib.hid (show pz (i + 1) = pi by rw [HS1.out, if_pos (by omega)])
                clear p1 p2 p3
                go_wp2_with fail
                go_roundw
                case rel => exact ⟨i + 1, by omega, by go_num, by rw [HE.out], by first | trivial | rfl⟩
                case measure => simp [intOf]; omega
            · have HE := Lib.hid (show pz (i + 1) = pi by
                by_cases hpp : 0 ≤ pi
                · rw [HS1.out, if_pos hpp]
                · rw [HS1.out, if_neg hpp, if_neg hz]; omega)
              clear p1 p2 p3
              go_wp2_with fail
              go_roundw
              case rel => exact ⟨i + 1, by omega, by go_num, by rw [HE.out], by first | trivial | rfl⟩
              case measure => simp [intOf]; omega
          · obtain rfl : i = 4 := by omega
            rw [← PZ.out]
            by_cases hpos : 0 ≤ posI zs
            · obtain ⟨p4, p4'⟩ := PL.out hpos
              have HS := Lib.hid (show iterB F n st (lo, hi) (k + 1) = some (qLo b.1 b.2 (posI zs).toNat, qHi b.1 b.2 (posI zs).toNat) by rw [HS0.out, SB.out, if_pos ⟨by first | rfl | trivial, hpos⟩])
              obtain ⟨j, hj⟩ : ∃ j : Nat, posI zs = (j : Int) := ⟨(posI zs).toNat, by omega⟩
              rw [hj] at HS p4 p4' ⊢
              rw [show ((j : Int)).toNat = j from rfl] at HS p4
              clear PL SB HS0 HN0 hj hpos PZ PS PB HC5 Hpos
              have j0 : (0 : Int) ≤ (j : Int) := by omega
              have jn : ¬ ((j : Int) < 0) := by omega
              have cA := (HCL.out j p4).1
              have cB := (HCL.out j p4).2
              go_wp2_with fail
              go_roundw
              case rel => exact ⟨k + 1, _, by omega, by first | rw [QT.out] | go_num, rfl, rfl, HS.out, HB5.out⟩
              case measure => simp [intOf]; omega
            · have HS := Lib.hid (show iterB F n st (lo, hi) tm = none from HN0.out (by rw [HS0.out, SB.out, if_neg (by simp; omega)]))
              have HBB := Lib.hid (BB.out.trans (HB5.out.mono (show w.heap.size ≤ W.heap.size by omega)))
              have jn : posI zs < 0 := by omega
              clear PL SB HS0 HN0 PZ PS PB HC5 Hpos
              go_wp2_with fail
              go_ret3
              rw [HS.out]
              exact ⟨_, _, _, _, rfl, fun x hx => (by cases hx), HBB.out⟩
    · obtain rfl : k = tm := by omega
      have j1 : ¬ ((0 : Int) < (k : Int) - (k : Int)) := by omega
      have HBB := Lib.hid (BB.out.trans (hbel.mono (show w.heap.size ≤ W.heap.size by omega)))
      have HI := Lib.hid hit
      clear hbel hit
      go_wp2_with fail
      go_ret3
      rw [HI.out]
      exact ⟨_, _, _, _, rfl, fun x hx => (by cases hx; exact ⟨rfl, rfl⟩), HBB.out⟩
end Go.Proofs.Ytklonahkacikbaa
