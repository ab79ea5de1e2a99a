/- Division over a prime: the program's walk. Conditions: terms are remainders of a small prime, lengths of at most 100. -/
import Derived.Test.YtlnjkjogedbhfaaI9
namespace Go.Proofs.Ytlnjkjogedbhfaa
open Go Go.RowKit
set_option linter.unusedSimpArgs false
set_option linter.unusedVariables false

theorem degree_exact (ao : Option Addr) (n cap : Nat) (w : World) (hl : n ≤ 1099511627776) : Calls Try.prog 79 #[.agg #[.slice ao n cap]] w fun e w' => e = .returned (.int .i64 ((n : Int) - 1)) ∧ w' = w.alloc (.cells #[.slice ao n cap] 27) := by
  go_enter Try.func79, Try.ntmps79
  go_wp2
  go_ret
  exact ⟨rfl, rfl⟩

theorem last_exact (b off n cap : Nat) (z : Int) (w : World) (h0 : 0 < n) (hl : n ≤ 1099511627776) (hb : b < w.heap.size) (c1 : w.cell? ⟨b, off + (n - 1), none⟩ = some (.int .i64 z)) : Calls Try.prog 80 #[.agg #[.slice (some ⟨b, off, none⟩) n cap]] w fun e w' => e = .returned (.int .i64 z) ∧ w' = w.alloc (.cells #[.slice (some ⟨b, off, none⟩) n cap] 27) := by
  go_enter Try.func80, Try.ntmps80
  go_wp2
  go_ret
  exact ⟨rfl, rfl⟩

def RW2 (F : List Int × List Int) (w : World) (e : Ending) (w' : World) : Prop := ∃ v u, e = .returned (.tuple #[.agg #[v], .agg #[u]]) ∧ OwI w' w.heap.size v F.1 ∧ OwI w' w.heap.size u F.2 ∧ Below w.heap.size w w'

theorem OwI.lit0 (w : World) (B : Nat) (h : B ≤ w.heap.size) : OwI (w.alloc (.cells #[.int .i64 0] 2)) B (.slice (some ⟨w.heap.size, 0, none⟩) 1 1) [0] :=
  (OwI.of_row (n := 1) (World.ownsRow_lit (base := w.heap.size) (size := 1) w #[.int .i64 0] 1 (Nat.le_refl _) (by decide) rfl)).mono h

/-- The boxes of the call. -/
def Bx (w : World) (h : Nat) (va vb : Value) : Prop := w.cell? ⟨h, 0, none⟩ = some va ∧ w.cell? ⟨h + 1, 0, none⟩ = some vb ∧ w.cell? ⟨h + 1 + 1, 0, none⟩ = some (.slice none 0 0) ∧ w.cell? ⟨h + 1 + 1 + 1, 0, none⟩ = some (.slice none 0 0) ∧ w.frozen? ⟨h + 1 + 1, 0, none⟩ = false ∧ w.frozen? ⟨h + 1 + 1 + 1, 0, none⟩ = false ∧ h + 1 + 1 + 1 < w.heap.size
theorem Bx.below {w w' : World} {h n : Nat} {va vb : Value} (hx : Bx w h va vb) (hn : w.heap.size ≤ n) (hb : Below n w w') : Bx w' h va vb := by
  obtain ⟨h1, h2, h3, h4, h5, h6, h7⟩ := hx
  refine ⟨(hb.cell (p := ⟨h, 0, none⟩) (by simp; omega)).trans h1, (hb.cell (p := ⟨h + 1, 0, none⟩) (by simp; omega)).trans h2, (hb.cell (p := ⟨h + 1 + 1, 0, none⟩) (by simp; omega)).trans h3, (hb.cell (p := ⟨h + 1 + 1 + 1, 0, none⟩) (by simp; omega)).trans h4, (hb.frozen (p := ⟨h + 1 + 1, 0, none⟩) (by simp; omega)).trans h5, (hb.frozen (p := ⟨h + 1 + 1 + 1, 0, none⟩) (by simp; omega)).trans h6, Nat.lt_of_lt_of_le h7 hb.size⟩
theorem Bx.lts {w : World} {h : Nat} {va vb : Value} (hx : Bx w h va vb) : h < w.heap.size ∧ h + 1 < w.heap.size ∧ h + 1 + 1 < w.heap.size ∧ h + 1 + 1 + 1 < w.heap.size := by
  have := hx.2.2.2.2.2.2
  omega

set_option maxRecDepth 100000 in
set_option maxHeartbeats 4000000 in
theorem divide_impl (va vb : Value) (a b : List Int) (m : Int) (w : World) (ha : RdI w va a) (hb : RdI w vb b) (hm : primeB m = true) (hoa : OvI m a) (hob : OvI m b) (hla : a ≠ []) (hlb : b ≠ []) (hla2 : a.length ≤ 100) (hlb2 : b.length ≤ 100) : Calls Try.prog 88 #[.agg #[va], .agg #[vb], .int .i64 m] w (RW2 (divF a b m) w) := by
  have hmp := primeB_bd hm
  have ha1 : 0 < a.length := List.length_pos_iff.2 hla
  have hb1 : 0 < b.length := List.length_pos_iff.2 hlb
  have Ha := Lib.hid ha
  obtain ⟨ba, oa, ca, rfl, hsa, hca⟩ := ha.open hla
  obtain ⟨bb, ob, cb, rfl, hsb, hcb⟩ := hb.open hlb
  have Hcb := Lib.hid hcb
  clear ha hb hca hcb
  have Boxes : ∀ w5 : World, w5 = (((((w.alloc (.cells #[.slice (some ⟨ba, oa, none⟩) a.length ca] 27)).alloc (.cells #[.slice (some ⟨bb, ob, none⟩) b.length cb] 27)).alloc (.cells #[.slice none 0 0] 27)).alloc (.cells #[.slice none 0 0] 27)).alloc (.cells #[.slice (some ⟨bb, ob, none⟩) b.length cb] 27)) →
      Bx w5 w.heap.size (.slice (some ⟨ba, oa, none⟩) a.length ca) (.slice (some ⟨bb, ob, none⟩) b.length cb) ∧ Below w.heap.size w w5 := by
    rintro w5 rfl
    exact ⟨⟨by go_simp, by go_simp, by go_simp, by go_simp, by go_simp, by go_simp, by simp⟩, by (repeat' (first | (with_reducible exact Below.refl _ _) | (with_reducible assumption) | (with_reducible refine Below.alloc ?_ ?_ _) | (with_reducible refine Below.setCell ?_ ?_ _) | (with_reducible refine Below.drew ?_) | (with_reducible refine Below.via (by assumption) ?_ ?_) | go_size))⟩
  by_cases hab : a.length < b.length
  · have Hd := Lib.hid (show divF a b m = ([0], a) from if_pos hab)
    go_enter Try.func88, Try.ntmps88
    go_wp2_with (first | ((fail_if_success (have hx3 := x3)); go_at_call 79; go_must (refine (degree_exact (some ⟨bb, ob, none⟩) _ _ _ (by omega)).mono ?_; rintro e w5 ⟨rfl, hw5⟩; obtain ⟨hx, hb5⟩ := Boxes w5 hw5; have HX := Lib.hid hx; clear hx; obtain ⟨x3, x4, x6, x7, y6, y7, _⟩ := HX.out; obtain ⟨l0, l1, l2, l3⟩ := Bx.lts (HX.out); have zb5 := hb5.size; have Ha2 := Lib.hid ((Ha.out.below hb5).alloc (.cells #[.slice (some ⟨ba, oa, none⟩) a.length ca] 27)); clear hw5)) | (go_at_call 79; refine (degree_exact (some ⟨ba, oa, none⟩) _ _ _ (by omega)).mono ?_; rintro e w' ⟨rfl, rfl⟩) | (go_at_call 94; go_must (refine (clone_impl _ a _ (Ha2.out.alloc _) hla (by omega)).mono ?_; rintro e w6 ⟨g1, cap1, rfl, hg1, hr1, hbl1⟩; have hb6 : Below w5.heap.size w5 w6 := (by (repeat' (first | (with_reducible exact Below.refl _ _) | (with_reducible assumption) | (with_reducible refine Below.alloc ?_ ?_ _) | (with_reducible refine Below.setCell ?_ ?_ _) | (with_reducible refine Below.drew ?_) | (with_reducible refine Below.via (by assumption) ?_ ?_) | go_size))); clear x3 x4 x6 x7 y6 y7 l0 l1 l2 l3; have HX6 := Lib.hid (HX.out.below (Nat.le_refl _) hb6); obtain ⟨x3, x4, x6, x7, y6, y7, _⟩ := HX6.out; obtain ⟨l0, l1, l2, l3⟩ := Bx.lts (HX6.out))))
    (try simp only [Exit.inBlock, Exit.then]); refine bodyPost_ret (by simp [results, Try.results88, go_sem, *]; try rfl) rfl ?_
    rw [Hd.out]
    have h0 : OwI ((w5.alloc (.cells #[.slice (some ⟨ba, oa, none⟩) a.length ca] 27)).alloc (.cells #[.int .i64 0] 2)) (w5.heap.size + 1) (.slice (some ⟨w5.heap.size + 1, 0, none⟩) 1 1) [0] := by
      have := World.ownsRow_lit (e := 2) (base := w5.heap.size + 1) (size := 1) (w5.alloc (.cells #[.slice (some ⟨ba, oa, none⟩) a.length ca] 27)) #[.int .i64 0] 1 (by simp) (by decide) rfl
      simp only [World.size_alloc] at this
      exact OwI.of_row (n := 1) this
    have h1 := h0.below hbl1
    have h2 := hr1.own
    have q1 := HX.out.lts
    have zb6 := hb6.size
    refine ⟨_, _, rfl, ((h1.setCell ?_ _).setCell ?_ _).mono (by omega), ((h2.setCell ?_ _).setCell ?_ _).mono (by simp; omega), by (repeat' (first | (with_reducible exact Below.refl _ _) | (with_reducible assumption) | (with_reducible refine Below.alloc ?_ ?_ _) | (with_reducible refine Below.setCell ?_ ?_ _) | (with_reducible refine Below.drew ?_) | (with_reducible refine Below.via (by assumption) ?_ ?_) | go_size))⟩
    · show w.heap.size + 1 + 1 < w5.heap.size + 1; omega
    · show w.heap.size + 1 + 1 + 1 < w5.heap.size + 1; omega
    · show w.heap.size + 1 + 1 < ((w5.alloc _).alloc _).heap.size; simp; omega
    · show w.heap.size + 1 + 1 + 1 < ((w5.alloc _).alloc _).heap.size; simp; omega
  · have hcnt : b.length ≤ a.length := by omega
    have hlz : 0 ≤ lastZ b ∧ lastZ b < m := hob (b.length - 1)
    have c0 := Hcb.out (b.length - 1) (by omega)
    rw [← lastZ] at c0
    have Hc0 := Lib.hid (fun (w' : World) (h : Below w.heap.size w w') => (h.cell (p := ⟨bb, ob + (b.length - 1), none⟩) hsb).trans c0)
    have hi0 := invZ_bd (lastZ b) m (by omega)
    have Hgo := Lib.hid (show divGo b m (invZ (lastZ b) m) (a.length - b.length + 1) (a, List.replicate (a.length - b.length + 1) 0) = divLO a b m from rfl)
    generalize lastZ b = lb at *
    clear c0
    go_enter Try.func88, Try.ntmps88
    go_wp2_with (first | ((fail_if_success (have hx3 := x3)); go_at_call 79; go_must (refine (degree_exact (some ⟨bb, ob, none⟩) _ _ _ (by omega)).mono ?_; rintro e w5 ⟨rfl, hw5⟩; obtain ⟨hx, hb5⟩ := Boxes w5 hw5; have HX := Lib.hid hx; clear hx; obtain ⟨x3, x4, x6, x7, y6, y7, _⟩ := HX.out; obtain ⟨l0, l1, l2, l3⟩ := Bx.lts (HX.out); have zb5 := hb5.size; have Ha2 := Lib.hid ((Ha.out.below hb5).alloc (.cells #[.slice (some ⟨ba, oa, none⟩) a.length ca] 27)); clear hw5)) | (go_at_call 79; refine (degree_exact (some ⟨ba, oa, none⟩) _ _ _ (by omega)).mono ?_; rintro e w' ⟨rfl, rfl⟩) | (go_at_call 94; go_must (refine (clone_impl _ a _ (Ha2.out.alloc _) hla (by omega)).mono ?_; rintro e w6 ⟨g1, cap1, rfl, hg1, hr1, hbl1⟩; have hb6 : Below w5.heap.size w5 w6 := (by (repeat' (first | (with_reducible exact Below.refl _ _) | (with_reducible assumption) | (with_reducible refine Below.alloc ?_ ?_ _) | (with_reducible refine Below.setCell ?_ ?_ _) | (with_reducible refine Below.drew ?_) | (with_reducible refine Below.via (by assumption) ?_ ?_) | go_size))); clear x3 x4 x6 x7 y6 y7 l0 l1 l2 l3; have HX6 := Lib.hid (HX.out.below (Nat.le_refl _) hb6); obtain ⟨x3, x4, x6, x7, y6, y7, _⟩ := HX6.out; obtain ⟨l0, l1, l2, l3⟩ := Bx.lts (HX6.out))) | (go_at_call 80; go_must (refine (last_exact bb ob _ cb lb _ hb1 (by omega) (by simp; omega) (Hc0.out _ (by (repeat' (first | (with_reducible exact Below.refl _ _) | (with_reducible assumption) | (with_reducible refine Below.alloc ?_ ?_ _) | (with_reducible refine Below.setCell ?_ ?_ _) | (with_reducible refine Below.drew ?_) | (with_reducible refine Below.via (by assumption) ?_ ?_) | go_size))))).mono ?_; rintro e w' ⟨rfl, rfl⟩)) | (go_at_call 133; go_must (refine (inverse_impl _ _ _ (by omega) (by omega) (by omega) (by omega)).mono ?_); rintro e w' ⟨rfl, rfl⟩) | (at_make; go_must (refine wpList_makeI _ rfl _ _ _ rfl int64S_under _ _ (a.length - b.length + 1) rfl rfl (by omega) (by omega) (by omega) ?_; intro w7 hr2 hbl2 hlt2)))
    clear x3 x4 x6 x7 y6 y7 l0 l1 l2 l3
    have q1 := HX.out.lts
    have hgs : w5.heap.size ≤ w6.heap.size := hb6.size
    have hg5 : w5.heap.size ≤ g1 := by simp at hg1; omega
    have hsb5 : bb < w5.heap.size := by omega
    have Hcb5 := Lib.hid (fun i (hi : i < b.length) => (hb5.cell (p := ⟨bb, ob + i, none⟩) hsb).trans (Hcb.out i hi))
    have Hbl := Lib.hid (hb6.trans (hbl2.mono hgs))
    have Hr1 := Lib.hid ((hr1.below hbl2).mono (B' := w5.heap.size) (by simp; omega))
    have Hr2 := Lib.hid (hr2.mono hgs)
    have hg6 : g1 < w6.heap.size := hr1.lt
    have n1 : ¬ (w6.heap.size = w.heap.size + 1) := by omega
    have n2 : ¬ (g1 = w.heap.size + 1) := by omega
    clear hr1 hr2
    go_loopw [12] (fun i wr => ∃ (k : Nat) (L O : List Int), k ≤ (a.length - b.length + 1) ∧ i = .int .i64 ((k : Int) - 1) ∧ RowI wr w5.heap.size (.slice (some ⟨g1, 0, none⟩) a.length cap1) L ∧ RowI wr w5.heap.size (.slice (some ⟨w6.heap.size, 0, none⟩) (a.length - b.length + 1) (a.length - b.length + 1)) O ∧ divGo b m (invZ lb m) k (L, O) = divLO a b m ∧ OvI m L ∧ L.length = a.length ∧ O.length = (a.length - b.length + 1) ∧ Below w5.heap.size w5 wr) (fun i _ => (intOf i + 1).toNat)
    case atStart => exact ⟨(a.length - b.length + 1), a, _, Nat.le_refl _, by go_num, Hr1.out, Hr2.out, Hgo.out, hoa, rfl, by simp, Hbl.out⟩
    case round =>
      obtain ⟨k0, L, O, hk, rfl, hrL, hrO, hgo, hov, hlL, hlO, hbel⟩ := hrel
      have HrO := Lib.hid hrO
      have HrL := Lib.hid hrL
      have Hbel := Lib.hid hbel
      have Hgo2 := Lib.hid hgo
      clear hrL hrO hgo
      have HXr := Lib.hid (HX.out.below (Nat.le_refl _) Hbel.out); obtain ⟨x3, x4, x6, x7, y6, y7, _⟩ := HXr.out; obtain ⟨l0, l1, l2, l3⟩ := Bx.lts HXr.out
      cases k0 with
      | zero =>
        have HLO := Lib.hid (show (L, O) = divLO a b m by have h := Hgo2.out; rw [divGo] at h; exact h)
        have Hd0 := (show divF a b m = (trimZ O, if b.length = 1 then [0] else trimZ (L.take (b.length - 1))) by rw [divF, if_neg hab, ← HLO.out])
        clear hov
        have hsz := hbel.size
        have Hbel3 := Lib.hid hbel
        clear hbel
        by_cases hb2 : b.length = 1
        · have hb3 : (b.length : Int) - 1 = 0 := by omega
          rw [if_pos hb2] at Hd0
          have Hd := Lib.hid Hd0
          clear HLO Hd0 hb2
          go_wp2_with fail
          have ho0 := OwI.lit0 wr w5.heap.size hsz
          ((with_reducible refine (whole_impl _ O _ w5.heap.size (HrO.out.own.alloc _) (by omega)).mono ?_); rintro e w8 ⟨v1, rfl, ho1, hb8⟩)
          have hz8 := hb8.size
          have Ho1 := Lib.hid ho1
          have Hbl8 := Lib.hid hb8
          simp only [World.size_alloc] at hz8
          clear ho1
          go_wp2_with fail
          ((with_reducible refine (whole_impl _ [0] _ w5.heap.size (ho0.below hb8) (by simp)).mono ?_); rintro e w9 ⟨v2, rfl, ho2, hb9⟩)
          have Ho2 := Lib.hid ho2
          clear ho2 ho0
          have hb10 : Below w5.heap.size w5 w9 := by have h := Hbel3.out; (repeat' (first | (with_reducible exact Below.refl _ _) | (with_reducible assumption) | (with_reducible refine Below.alloc ?_ ?_ _) | (with_reducible refine Below.setCell ?_ ?_ _) | (with_reducible refine Below.drew ?_) | (with_reducible refine Below.via (by assumption) ?_ ?_) | go_size))
          have HX9 := Lib.hid (HX.out.below (Nat.le_refl _) hb10)
          have Hb9 := Lib.hid hb9
          have Hb10 := Lib.hid hb10
          clear hb8 hb9 hb10 x3 x4 x6 x7 y6 y7
          obtain ⟨x3, x4, x6, x7, y6, y7, _⟩ := HX9.out
          have hw9 := Bx.lts HX9.out
          obtain ⟨ao1, cp1, rfl⟩ := Ho1.out.rd.shape
          obtain ⟨ao2, cp2, rfl⟩ := Ho2.out.rd.shape
          go_wp2_with fail
          (try simp only [Exit.inBlock, Exit.then]); refine bodyPost_ret (by simp [results, Try.results88, go_sem, *]; try rfl) rfl ?_
          rw [Hd.out]
          have q4 := HX.out.lts
          exact ⟨_, _, rfl, OwI.mono (B := w5.heap.size) (OwI.setCell (OwI.setCell (Ho1.out.below Hb9.out) (by show w.heap.size + 1 + 1 < _; omega) _) (by show w.heap.size + 1 + 1 + 1 < _; omega) _) (by omega), OwI.mono (B := w5.heap.size) (OwI.setCell (OwI.setCell Ho2.out (by show w.heap.size + 1 + 1 < _; omega) _) (by show w.heap.size + 1 + 1 + 1 < _; omega) _) (by omega), by have h := Hb10.out; (repeat' (first | (with_reducible exact Below.refl _ _) | (with_reducible assumption) | (with_reducible refine Below.alloc ?_ ?_ _) | (with_reducible refine Below.setCell ?_ ?_ _) | (with_reducible refine Below.drew ?_) | (with_reducible refine Below.via (by assumption) ?_ ?_) | go_size))⟩
        · rw [if_neg hb2] at Hd0
          have Hd := Lib.hid Hd0
          clear HLO Hd0
          have hb4 : 2 ≤ b.length := by omega
          have hb5' : ((b.length : Int) - 1).toNat = b.length - 1 := by omega
          have hb6' : (0 : Int) ≤ (b.length : Int) - 1 := by omega
          have hb7' : ¬ ((b.length : Int) - 1 = 0) := by omega
          have hcap : a.length ≤ cap1 := by
            obtain ⟨g', cp, hv, _, _, h1, _⟩ := HrL.out.own.open (by intro h; rw [h] at hlL; simp at hlL; omega)
            simp only [Value.slice.injEq] at hv
            omega
          have hcap2 : (b.length : Int) - 1 ≤ cap1 := by omega
          have hcap3 : b.length - 1 ≤ cap1 := by omega
          clear hb2
          have HT := Lib.hid (HrL.out.own.take (n := b.length - 1) (c := cap1) (by omega) (by omega) (Nat.le_refl _))
          go_wp2_with fail
          ((with_reducible refine (whole_impl _ O _ w5.heap.size HrO.out.own (by omega)).mono ?_); rintro e w8 ⟨v1, rfl, ho1, hb8⟩)
          have hz8 := hb8.size
          have Ho1 := Lib.hid ho1
          have Hbl8 := Lib.hid hb8
          clear ho1
          go_wp2_with fail
          ((with_reducible refine (whole_impl _ _ _ w5.heap.size (HT.out.below hb8) (by simp; omega)).mono ?_); rintro e w9 ⟨v2, rfl, ho2, hb9⟩)
          have Ho2 := Lib.hid ho2
          clear ho2
          have hb10 : Below w5.heap.size w5 w9 := by have h := Hbel3.out; (repeat' (first | (with_reducible exact Below.refl _ _) | (with_reducible assumption) | (with_reducible refine Below.alloc ?_ ?_ _) | (with_reducible refine Below.setCell ?_ ?_ _) | (with_reducible refine Below.drew ?_) | (with_reducible refine Below.via (by assumption) ?_ ?_) | go_size))
          have HX9 := Lib.hid (HX.out.below (Nat.le_refl _) hb10)
          have Hb9 := Lib.hid hb9
          have Hb10 := Lib.hid hb10
          clear hb8 hb9 hb10 x3 x4 x6 x7 y6 y7
          obtain ⟨x3, x4, x6, x7, y6, y7, _⟩ := HX9.out
          have hw9 := Bx.lts HX9.out
          obtain ⟨ao1, cp1, rfl⟩ := Ho1.out.rd.shape
          obtain ⟨ao2, cp2, rfl⟩ := Ho2.out.rd.shape
          go_wp2_with fail
          (try simp only [Exit.inBlock, Exit.then]); refine bodyPost_ret (by simp [results, Try.results88, go_sem, *]; try rfl) rfl ?_
          rw [Hd.out]
          have q4 := HX.out.lts
          exact ⟨_, _, rfl, OwI.mono (B := w5.heap.size) (OwI.setCell (OwI.setCell (Ho1.out.below Hb9.out) (by show w.heap.size + 1 + 1 < _; omega) _) (by show w.heap.size + 1 + 1 + 1 < _; omega) _) (by omega), OwI.mono (B := w5.heap.size) (OwI.setCell (OwI.setCell Ho2.out (by show w.heap.size + 1 + 1 < _; omega) _) (by show w.heap.size + 1 + 1 + 1 < _; omega) _) (by omega), by have h := Hb10.out; (repeat' (first | (with_reducible exact Below.refl _ _) | (with_reducible assumption) | (with_reducible refine Below.alloc ?_ ?_ _) | (with_reducible refine Below.setCell ?_ ?_ _) | (with_reducible refine Below.drew ?_) | (with_reducible refine Below.via (by assumption) ?_ ?_) | go_size))⟩
      | succ k =>
        have c2 := HrL.out.cell (j := k + (b.length - 1)) (by omega)
        have hl := hov (k + (b.length - 1))
        have Hq := Lib.hid (show divQ b m (invZ lb m) k L = (L.getD (k + (b.length - 1)) 0 * invZ lb m) % m from rfl)
        have hp := div_bound hl hi0 (show 0 ≤ (0 : Int) ∧ (0 : Int) < m by omega) (by omega)
        have c3 := HrO.out.cell (j := k) (by omega)
        have c4 := HrO.out.frozen k
        generalize O.getD k 0 = oldq at c3
        generalize L.getD (k + (b.length - 1)) 0 = l at *
        generalize hpe : l * invZ lb m = li at *
        have hq : 0 ≤ li % m ∧ li % m < m := ⟨Int.emod_nonneg _ (by omega), Int.emod_lt_of_pos _ (by omega)⟩
        have hm0 : m ≠ 0 := by omega
        generalize hqe : li % m = q at *
        clear hbel
        rw [show (((k + 1 : Nat) : Int) - 1) = (k : Int) by omega]
        go_wp2_with (go_at_call 85; go_must (refine (rest_impl li m _ (by omega) (by omega) (by omega) (by omega)).mono ?_); rintro e w' ⟨rfl, rfl⟩)
        go_loopw [62] (fun jj w3 => ∃ j : Nat, j ≤ b.length ∧ jj = .int .i64 j ∧ RowI w3 w5.heap.size (.slice (some ⟨g1, 0, none⟩) a.length cap1) (subRow q b m k L j) ∧ RowI w3 w5.heap.size (.slice (some ⟨w6.heap.size, 0, none⟩) (a.length - b.length + 1) (a.length - b.length + 1)) (O.set k q) ∧ Below w5.heap.size w5 w3) (fun jj _ => b.length - (intOf jj).toNat)
        case atStart => exact ⟨0, Nat.zero_le _, rfl, HrL.out.setOther (by simp; omega) _, HrO.out.set k q, by have h := Hbel.out; (repeat' (first | (with_reducible exact Below.refl _ _) | (with_reducible assumption) | (with_reducible refine Below.alloc ?_ ?_ _) | (with_reducible refine Below.setCell ?_ ?_ _) | (with_reducible refine Below.drew ?_) | (with_reducible refine Below.via (by assumption) ?_ ?_) | go_size))⟩
        case round =>
          obtain ⟨j, hj, rfl, hrL2, hrO2, hbel2⟩ := hrel
          have HrL2 := Lib.hid hrL2
          have HrO2 := Lib.hid hrO2
          have Hbel2 := Lib.hid hbel2
          clear hrL2 hrO2
          by_cases hlt : j < b.length
          · have hls : (subRow q b m k L j).length = a.length := by rw [subRow_length, hlL]
            have c5 := HrL2.out.cell (j := k + j) (by omega)
            have c6 := HrL2.out.frozen (k + j)
            have c7 := (hbel2.cell (p := ⟨bb, ob + j, none⟩) hsb5).trans (Hcb5.out j hlt)
            have c8 := HrO2.out.cell (j := k) (by rw [List.length_set]; omega)
            rw [show (O.set k q).getD k 0 = q by simp [List.getD, show k < O.length by omega]] at c8
            have hl2 := subRow_ov (q := q) (k := k) (by omega) hov (show k + b.length ≤ L.length by omega) j (by omega) (k + j)
            have hpb := div_bound hq (hob j) hl2 (by omega)
            have H2 := Lib.hid (HrL2.out.set (k + j) (((subRow q b m k L j).getD (k + j) 0 - q * b.getD j 0) % m))
            have H3 := Lib.hid (show subRow q b m k L (j + 1) = (subRow q b m k L j).set (k + j) (((subRow q b m k L j).getD (k + j) 0 - q * b.getD j 0) % m) from rfl)
            clear hov hbel2
            generalize (subRow q b m k L j).getD (k + j) 0 = l2 at *
            generalize b.getD j 0 = y at *
            generalize hqy : q * y = qy at *
            have q1 : IntKind.i64.wrap ((k : Int) + j) = (k : Int) + j := IntWalk.i64_in _ ⟨by omega, by omega⟩
            have q2 : (k : Int) + j < (a.length : Int) := by omega
            have q3 : ((k : Int) + j).toNat = k + j := by omega
            have q4 : IntKind.i64.wrap qy = qy := IntWalk.i64_in _ ⟨by omega, by omega⟩
            have q5 : IntKind.i64.wrap (l2 - qy) = l2 - qy := IntWalk.i64_in _ ⟨by omega, by omega⟩
            have q6 : (0 : Int) ≤ (k : Int) + j := by omega
            have q7 : (k : Int) < ((a.length - b.length : Nat) : Int) + 1 := by omega
            have q8 : k ≤ a.length - b.length := by omega
            have q9 : k < a.length - b.length + 1 := by omega
            go_wp2
            (refine wp_region_still_tail 20 (by kernel_rfl) (by kernel_rfl) ?_; simp only [List.take_succ_cons, List.take_zero, List.drop_succ_cons, List.drop_zero]; repeat (first | still_step | still_call (rest_call _ _ _ (by omega) (by omega) (by omega) (by omega))); (try refine wpStill_nil ?_))
            change wpList _ _ _ _ _ (World.drew _)
            go_wp2
            go_roundw
            case rel =>
              refine ⟨j + 1, by omega, by go_num, ?_, ?_, ?_⟩
              · rw [H3.out]; exact H2.out
              · exact HrO2.out.setOther (by simp; omega) _
              · have h3 := Hbel2.out; (repeat' (first | (with_reducible exact Below.refl _ _) | (with_reducible assumption) | (with_reducible refine Below.alloc ?_ ?_ _) | (with_reducible refine Below.setCell ?_ ?_ _) | (with_reducible refine Below.drew ?_) | (with_reducible refine Below.via (by assumption) ?_ ?_) | go_size))
            case measure => simp [intOf] <;> omega
          · obtain rfl : j = b.length := by omega
            clear hbel2
            go_wp2
            go_roundw
            case rel =>
              refine ⟨k, _, _, by omega, by go_num, HrL2.out, HrO2.out, ?_, subRow_ov (by omega) hov (by omega) _ (Nat.le_refl _), by rw [subRow_length, hlL], by rw [List.length_set, hlO], Hbel2.out⟩
              have h := Hgo2.out
              simp only [divGo, Hq.out] at h
              exact h
            case measure => simp [intOf] <;> omega
end Go.Proofs.Ytlnjkjogedbhfaa
