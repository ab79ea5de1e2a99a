/- Factors over a prime: the reference's list in order. Conditions: a prime, degrees 1 to 6. -/
import Derived.Test.YtlnjkjogedbhfaaI44
import Derived.Test.YtlnjkjogedbhfaaIWg
namespace Go.Proofs.Ytlnjkjogedbhfaa
open Go Go.RowKit
set_option linter.unusedSimpArgs false
set_option linter.unusedVariables false

/-- The blocks of the elements from k on. -/
def Xfrom (f : Nat → Nat) (k n : Nat) : Nat → Prop := fun b => ∃ j, k ≤ j ∧ j < n ∧ b = f j
theorem xfrom_weak {f : Nat → Nat} {k n b : Nat} (h : Xfrom f (k + 1) n b) : Xfrom f k n b := by
  obtain ⟨j, h1, h2, h3⟩ := h
  exact ⟨j, by omega, h2, h3⟩
theorem Below.of_blk {B B0 : Nat} {W w' : World} (hb : Below B0 W w') (h : ∀ k, k < B → w'.heap[k]? = W.heap[k]?) : Below B W w' := ⟨hb.os, hb.tape, hb.output, hb.size, h⟩
theorem take_next {L : List (List Int)} {k : Nat} (h : k < L.length) : L.take k ++ [L.getD k []] = L.take (k + 1) := by
  rw [List.take_add_one]
  simp [List.getD, h]
theorem take_get {L : List (List Int)} {k i : Nat} (h : i < k) : (L.take k).getD i [] = L.getD i [] := by
  simp only [List.getD, List.getElem?_take, if_pos h]
set_option maxRecDepth 100000 in
set_option maxHeartbeats 8000000 in
theorem ordered_spec (va : Value) (a now0 : List Int) (M : Nat) (L : List (List Int)) (w : World) (ha : RdI w va a) (hm : primeB (M : Int) = true) (hov : Ovr M a) (hz : zeroB a = false) (hl : a.length ≤ 7) (hmo : monicS M a = now0) (hmn : Mon M now0) (hf : Fs M 1 0 now0 L) (hL7 : L.length ≤ 7) (hs : Srt L) (hLn : L ≠ []) : Calls Try.prog 117 #[va, .int .i64 M] w (RLs L w) := by
  have Ha := Lib.hid ha
  have Hm := Lib.hid hm
  have hov' := Lib.hid hov
  have Hz := Lib.hid hz
  have Hmo := Lib.hid hmo
  have Hmn := Lib.hid hmn
  have Hf := Lib.hid hf
  have Hs := Lib.hid hs
  obtain ⟨aoa, ca, rfl⟩ := ha.shape
  clear ha hm hov hz hmo hmn hf hs
  go_enter Try.func117, Try.ntmps117
  go_wp2_with fail
  (go_at_call 140; ((with_reducible refine (factors_spec _ a now0 M L _ (Ha.out.below (by (repeat' (first | (with_reducible exact Below.refl _ _) | (with_reducible assumption) | (with_reducible refine Below.alloc ?_ ?_ _) | (with_reducible refine Below.setCell ?_ ?_ _) | (with_reducible refine Below.drew ?_) | (with_reducible refine Below.via (by assumption) ?_ ?_) | go_size)))) Hm.out hov'.out Hz.out hl Hmo.out Hmn.out Hf.out hL7).mono ?_); rintro e w1 ⟨v1, rfl, o1, h1⟩))
  have z1 := h1.size
  (try simp only [World.size_alloc] at z1)
  rcases o1 with ⟨rfl, hLe⟩ | ⟨g, cap, f, c, rfl, hcp, hB, hhi, hgs, he, hx⟩
  · exact absurd hLe hLn
  have Row0 := Lib.hid (show RowX 27 w1 w.heap.size (Xfrom f 0 L.length) (.slice (some ⟨w.heap.size, 0, none⟩) 0 0) (L.take 0) from (RowX.empty rfl (Nat.le_refl _) (by
    rintro ⟨j, _, hj, h⟩
    obtain ⟨_, q1, q2, _⟩ := (he j hj).1.cases1
    (try simp only [World.size_alloc] at q1)
    omega)).below h1)
  have He := Lib.hid he
  have Hx := Lib.hid hx
  have BW := Lib.hid (show Below w.heap.size w w1 by (repeat' (first | (with_reducible exact Below.refl _ _) | (with_reducible assumption) | (with_reducible refine Below.alloc ?_ ?_ _) | (with_reducible refine Below.setCell ?_ ?_ _) | (with_reducible refine Below.drew ?_) | (with_reducible refine Below.via (by assumption) ?_ ?_) | go_size)))
  have zw : w.heap.size ≤ w1.heap.size := by omega
  clear he hx h1 hhi hB
  go_wp2_with fail
  go_loopw [5, 16] (fun ov i wr => ∃ k : Nat, k ≤ L.length ∧ i = .int .i64 k ∧ RowX 27 wr w.heap.size (Xfrom f k L.length) ov (L.take k) ∧ Below w1.heap.size w1 wr) (fun _ i _ => L.length - (intOf i).toNat)
  case atStart => exact ⟨0, Nat.zero_le _, rfl, Row0.out, Below.refl _ _⟩
  case round =>
    obtain ⟨k, hk, rfl, hrow, hbel⟩ := hrel
    have htk : (L.take k).length = k := by rw [List.length_take]; omega
    obtain ⟨go, co, hsh⟩ := hrow.shape
    rw [htk] at hsh
    subst hsh
    have Hrow := Lib.hid hrow
    have hgo := hrow.lt
    have hsz := hbel.size
    have Hcap := Lib.hid (hrow.own.rd)
    clear hrow
    by_cases hlt : k < L.length
    · have c1 : wr.cell? ⟨g, k, none⟩ = some (.slice (some ⟨f k, 0, none⟩) (L.getD k []).length (c k)) := (hbel.cell (p := ⟨g, k, none⟩) hgs).trans (Hx.out k hlt)
      have Hel := Lib.hid (He.out k hlt)
      have Hlow := Lib.hid (fun b (hb : Xfrom f k L.length b) => show b < wr.heap.size by
        obtain ⟨j, _, hj, rfl⟩ := hb
        obtain ⟨_, _, q2, _⟩ := (He.out j hj).1.cases1
        omega)
      have Hne := Lib.hid (fun (hb : Xfrom f (k + 1) L.length (f k)) => by
        obtain ⟨j, h1, h2, h3⟩ := hb
        exact (He.out j h2).2.2.2 k (by omega) h3 : ¬ Xfrom f (k + 1) L.length (f k))
      have Htk := Lib.hid (take_next hlt)
      have Hlo := Lib.hid (show w.heap.size ≤ (w.alloc (Obj.cells #[] 27)).heap.size by simp)
      have Hbel := Lib.hid hbel
      have hkk : (k : Int) < (L.length : Int) := by omega
      have Hl1 := Lib.hid (Hs.out.el k hlt)
      have Hel1 := Lib.hid (show OwI w1 (w.alloc (Obj.cells #[] 27)).heap.size (.slice (some ⟨f k, 0, none⟩) (L.getD k []).length (c k)) (L.getD k []) from Hel.out.1)
      have R1 := Lib.hid (Hel1.out.rd.below Hbel.out)
      have HbefS := Lib.hid (fun l (h : l + 1 = k) => show befB (L.getD k []) (L.getD l []) = false by subst h; exact Hs.out.srt l hlt)
      clear He Hel
      generalize L.getD k [] = A at *
      rcases Nat.eq_zero_or_pos k with h0 | h0
      · subst h0
        go_wp2_with fail
        go_loopw [8] (fun av wx => av = .int .i64 0 ∧ Below wr.heap.size wr wx) (fun _ _ => 0)
        case atStart => exact ⟨rfl, by (repeat' (first | (with_reducible exact Below.refl _ _) | (with_reducible assumption) | (with_reducible refine Below.alloc ?_ ?_ _) | (with_reducible refine Below.setCell ?_ ?_ _) | (with_reducible refine Below.drew ?_) | (with_reducible refine Below.via (by assumption) ?_ ?_) | go_size))⟩
        case round =>
          obtain ⟨rfl, hbx⟩ := hrel
          have Hbx := Lib.hid hbx
          have zx := hbx.size
          have c2 := (hbx.cell (p := ⟨g, 0, none⟩) (World.block_lt_of_cell? _ _ c1)).trans c1
          clear c1 hbx
          have hgl := World.block_lt_of_cell? _ _ c2
          simp only at hgl
          go_wp2_with fail
          go_big_quiet (fail)
          generalize hwq : World.drewN _ _ = wq
          have Bq := Lib.hid (show Below wr.heap.size wr wq by rw [← hwq]; exact drewN_below _ _)
          have c4 := (Bq.out.cell (p := ⟨g, 0, none⟩) hgl).trans c2
          have hgl2 := World.block_lt_of_cell? _ _ c4
          simp only at hgl2
          have zq := Bq.out.size
          have HelQ := Lib.hid ((((Hel1.out.mono Hlo.out).below Hbel.out).below Hbx.out).below Bq.out)
          have hlowq := Lib.hid (fun b (hb : Xfrom f (0) L.length b) => Nat.lt_of_lt_of_le (Nat.lt_of_lt_of_le (Hlow.out b hb) zx) zq)
          have zw9 : w.heap.size ≤ wq.heap.size := by omega
          have z19 : w1.heap.size ≤ wq.heap.size := by omega
          have B1q := Lib.hid (show Below w1.heap.size w1 wq from (Hbel.out.trans (Hbx.out.mono hsz)).trans (Bq.out.mono (by omega)))
          clear hwq hgl
          go_wp2_with (first | (at_builtin; refine wpList_pushX (W := wq.alloc (.cells #[] 27)) (B := w.heap.size) (X := Xfrom f (0) L.length) (X' := Xfrom f (0 + 1) L.length) infoW rfl (RowX.empty rfl zw9 (fun h => Nat.lt_irrefl _ (hlowq.out _ h))) ⟨0, Nat.le_refl _, hlt, rfl⟩ Hne.out (fun b hb => ⟨xfrom_weak hb, by have := hlowq.out b (xfrom_weak hb); simp only [World.size_alloc]; omega⟩) (HelQ.out.alloc _) rfl _ _ rfl wholeS_under (by simp) (by simp only [World.size_alloc]; omega) rfl rfl (by first | rfl | simp) ?_; intro v2 y2 hr2 hb2 hk2 hq2; have hz2 := hb2.size; have HR2 := Lib.hid hr2; have HB2 := Lib.hid hb2; have HK2 := Lib.hid hk2; have HQ2 := Lib.hid hq2; obtain ⟨g2, cap2, rfl⟩ := hr2.shape; clear hr2 hb2 hk2 hq2) | (at_builtin; (refine wpList_noneX (W := y2) (B := w.heap.size) (X := Xfrom f (0 + 1) L.length) infoW rfl HR2.out (fun b hb => by have h1 := hlowq.out b (xfrom_weak hb); (simp only [World.size_alloc] at hz2; omega)) rfl _ _ rfl wholeS_under (by simp) (by simp only [World.size_alloc] at hz2; omega) rfl (by rfl) ?_); intro v3 y3 hr3 hb3 hk3 hq3; have hz3 := hb3.size))
          go_roundw
          case rel =>
            refine ⟨0 + 1, by omega, by go_num, by rw [← Htk.out]; exact hr3, ?_⟩
            have hg2 := HQ2.out g2 _ cap2 rfl
            simp only [Value.ownBlock, Option.some.injEq] at hg2
            have hb9 := Below.of_blk (B := w1.heap.size) hb3 (fun q hq => hk3 q (by simp only [World.size_alloc] at hz2; omega) (by simp only [Value.ownBlock, ne_eq, Option.some.injEq]; (simp only [World.size_alloc] at hg2; omega)))
            have hb8 := Below.of_blk (B := w1.heap.size) HB2.out (fun q hq => HK2.out q (by simp only [World.size_alloc]; omega) (by simp only [Value.ownBlock, ne_eq, Option.some.injEq]; omega))
            exact ((B1q.out.trans ((Below.refl _ _).alloc z19 _)).trans hb8).trans hb9
          case measure => simp [intOf]; omega
      · obtain ⟨l, hkl⟩ : ∃ l, k = l + 1 := ⟨k - 1, by omega⟩
        have hlt0 : l < L.length := by omega
        obtain ⟨b0, off0, cap0, hve, hb0, hc0⟩ := Hrow.out.own.rd.open (by intro h; rw [h] at htk; simp at htk; omega)
        rw [htk] at hve
        simp only [Value.slice.injEq, Option.some.injEq, Addr.mk.injEq, true_and, and_true] at hve
        obtain ⟨⟨rfl, rfl⟩, rfl⟩ := hve
        obtain ⟨u0, q0, r0⟩ := hc0 l (by omega)
        rw [take_get (by omega)] at r0
        rw [Nat.zero_add] at q0
        have R0 := Lib.hid r0
        obtain ⟨p0, n0, rfl⟩ := r0.shape
        have E0 := Lib.hid (Hs.out.el l hlt0)
        have Es := Lib.hid (HbefS.out l hkl.symm)
        clear HbefS
        generalize L.getD l [] = B at *
        have hw1 : IntKind.i64.wrap ((k : Int) - 1) = (l : Int) := by rw [show (k : Int) - 1 = (l : Int) by omega]; exact IntWalk.i64_in _ ⟨by omega, by omega⟩
        have hll : (l : Int) < (k : Int) := by omega
        have hl0 : (0 : Int) < (k : Int) := by omega
        have hl1' : (0 : Int) ≤ (l : Int) := by omega
        have Hkl := Lib.hid hkl
        clear hkl
        have hkc : k ≤ co := by
          obtain ⟨ad9, cp9, he9, hc9, _⟩ := Hcap.out
          simp only [Value.slice.injEq] at he9
          have := hc9.1
          rw [htk] at this
          omega
        have hkc2 : (k : Int) ≤ (co : Int) := by omega
        clear hc0 r0
        go_wp2_with fail
        go_loopw [8] (fun av wx => av = .int .i64 (k : Int) ∧ Below wr.heap.size wr wx) (fun _ _ => 0)
        case atStart => exact ⟨rfl, by (repeat' (first | (with_reducible exact Below.refl _ _) | (with_reducible assumption) | (with_reducible refine Below.alloc ?_ ?_ _) | (with_reducible refine Below.setCell ?_ ?_ _) | (with_reducible refine Below.drew ?_) | (with_reducible refine Below.via (by assumption) ?_ ?_) | go_size))⟩
        case round =>
          obtain ⟨rfl, hbx⟩ := hrel
          have Hbx := Lib.hid hbx
          have zx := hbx.size
          have R1x := Lib.hid (R1.out.below hbx)
          have R0x := Lib.hid (R0.out.below hbx)
          have c2 := (hbx.cell (p := ⟨g, k, none⟩) (World.block_lt_of_cell? _ _ c1)).trans c1
          have c3 := (hbx.cell (p := ⟨go, l, none⟩) hb0).trans q0
          clear c1 q0 hbx
          have hgl := World.block_lt_of_cell? _ _ c2
          simp only at hgl
          go_wp2_with fail
          go_region_held3 (fun w' => w'.cell? ⟨g, k, none⟩ = some (.slice (some ⟨f (k), 0, none⟩) A.length (c (k))) ∧ w'.cell? ⟨go, l, none⟩ = some (.slice p0 B.length n0))
            (((try dsimp only); (try go_split_ands); refine ⟨?_, ?_⟩ <;> (first | assumption | (rw [hbc.cell (by first | omega | (simp <;> omega))]; assumption) | (refine (((Below.refl _ _).alloc (Nat.le_refl _) _).cell (by first | omega | (simp <;> omega))).trans (by assumption)) | (go_keep; done))))
            (first | (go_at_call 141; ((have T1 := before_spec _ _ A B wr.drew (R1x.out.below ((Below.refl _ _).drew)) (R0x.out.below ((Below.refl _ _).drew)) Hl1.out.1 E0.out.1 Hl1.out.2.1 E0.out.2.1); (refine T1.mono ?_); (rintro e wb ⟨mb, rfl, rfl⟩); (rw [Es.out]); (have hbc := drewN_below wr.drew mb))))
          generalize hwq : World.drewN _ _ = wq
          have Bq := Lib.hid (show Below wr.heap.size wr wq by rw [← hwq]; exact drewN_below _ _)
          have c4 := (Bq.out.cell (p := ⟨g, k, none⟩) hgl).trans c2
          have hgl2 := World.block_lt_of_cell? _ _ c4
          simp only at hgl2
          have zq := Bq.out.size
          have HelQ := Lib.hid ((((Hel1.out.mono Hlo.out).below Hbel.out).below Hbx.out).below Bq.out)
          have hlowq := Lib.hid (fun b (hb : Xfrom f (k) L.length b) => Nat.lt_of_lt_of_le (Nat.lt_of_lt_of_le (Hlow.out b hb) zx) zq)
          have zw9 : w.heap.size ≤ wq.heap.size := by omega
          have z19 : w1.heap.size ≤ wq.heap.size := by omega
          have B1q := Lib.hid (show Below w1.heap.size w1 wq from (Hbel.out.trans (Hbx.out.mono hsz)).trans (Bq.out.mono (by omega)))
          clear hwq hgl
          have HrowQ := Lib.hid (show RowX 27 wq w.heap.size (Xfrom f (k) L.length) (.slice (some ⟨go, 0, none⟩) k co) (L.take (k)) from (Hrow.out.below Hbx.out).below Bq.out)
          go_wp2_with (first | (at_builtin; refine wpList_cloneX (W := wq) (X := Xfrom f (k) L.length) (v := .slice (some ⟨go, 0, none⟩) k co) (ls := L.take (k)) (B := w.heap.size) infoW rfl HrowQ.out (fun b hb => hlowq.out b hb) rfl _ _ rfl wholeS_under (by rw [htk]; omega) zw9 rfl rfl rfl ?_; intro g1 cap1 y1 hg1 hr1 hb1; rw [htk]; rw [htk] at hr1; have hz1 := hb1.size; have c5 := (hb1.cell (p := ⟨g, k, none⟩) hgl2).trans c4; have hgl3 := World.block_lt_of_cell? _ _ c5; simp only at hgl3) | (at_builtin; refine wpList_pushX (W := y1) (B := w.heap.size) (X := Xfrom f (k) L.length) (X' := Xfrom f (k + 1) L.length) infoW rfl hr1 ⟨k, Nat.le_refl _, hlt, rfl⟩ Hne.out (fun b hb => ⟨xfrom_weak hb, by have := hlowq.out b (xfrom_weak hb); omega⟩) (HelQ.out.below hb1) rfl _ _ rfl wholeS_under (by rw [htk]; omega) (by omega) rfl rfl (by first | rfl | simp) ?_; intro v2 y2 hr2 hb2 hk2 hq2; have hz2 := hb2.size; have HR2 := Lib.hid hr2; have HB2 := Lib.hid hb2; have HK2 := Lib.hid hk2; have HQ2 := Lib.hid hq2; obtain ⟨g2, cap2, rfl⟩ := hr2.shape; rw [show (L.take (k) ++ [A]).length = k + 1 by rw [List.length_append, htk]; rfl] at HR2; clear hr2 hb2 hk2 hq2) | (at_builtin; (refine wpList_noneX (W := y2) (ad := if co = k then ⟨go, 0, none⟩ else ⟨go, k, none⟩) (c := co - k) (B := w.heap.size) (X := Xfrom f (k + 1) L.length) infoW rfl HR2.out (fun b hb => by have h1 := hlowq.out b (xfrom_weak hb); omega) rfl _ _ rfl wholeS_under (by simp only [List.length_append, List.length_singleton, htk]; omega) (by omega) rfl (by show Value.slice (if co = k then some ⟨go, 0, none⟩ else some ⟨go, k, none⟩) 0 (co - k) = Value.slice (some (if co = k then ⟨go, 0, none⟩ else ⟨go, k, none⟩)) 0 (co - k); split <;> rfl) ?_); intro v3 y3 hr3 hb3 hk3 hq3; have hz3 := hb3.size))
          all_goals
            go_roundw
            case rel =>
              refine ⟨k + 1, by omega, by go_num, by rw [← Htk.out]; exact hr3, ?_⟩
              have hg2 := HQ2.out g2 _ cap2 rfl
              simp only [Value.ownBlock, Option.some.injEq] at hg2
              have hb9 := Below.of_blk (B := w1.heap.size) hb3 (fun q hq => hk3 q (by omega) (by simp only [Value.ownBlock, ne_eq, Option.some.injEq]; omega))
              have hb8 := Below.of_blk (B := w1.heap.size) HB2.out (fun q hq => HK2.out q (by omega) (by simp only [Value.ownBlock, ne_eq, Option.some.injEq]; omega))
              exact ((B1q.out.trans (hb1.mono z19)).trans hb8).trans hb9
            case measure => simp [intOf]; omega
    · obtain rfl : k = L.length := by omega
      go_wp2_with fail
      go_ret
      exact ⟨_, rfl, by have h := Hrow.out.own; rw [List.take_length] at h; exact h, BW.out.trans (hbel.mono zw)⟩

end Go.Proofs.Ytlnjkjogedbhfaa
