/- Drawn wholes. Conditions: bytes. -/
import Derived.Test.YtlnjkjogedbhfaaI35
namespace Go.Proofs.Ytlnjkjogedbhfaa
open Go Go.RowKit
set_option linter.unusedSimpArgs false
set_option linter.unusedVariables false

theorem RowI.only {w w' : World} {lo hi B : Nat} {v : Value} {zs : List Int} (h : RowI w B v zs) (ho : Only lo hi w w') (hd : hi ≤ B) : RowI w' B v zs := by
  refine ⟨h.1, ?_⟩
  rcases h.2 with h | ⟨g, cap, cur, h1, h2, h3, h4⟩
  · exact .inl h
  · exact .inr ⟨g, cap, cur, h1, h2, by rw [ho.block g (Array.getElem?_eq_some_iff.1 h3).1 (by omega)]; exact h3, h4⟩
theorem Only.below' {lo hi : Nat} {a b c : World} (h : Only lo hi a b) (hb : Below a.heap.size b c) : Only lo hi a c :=
  ⟨hb.os.trans h.os, hb.tape.trans h.tape, hb.output.trans h.output, Nat.le_trans h.size hb.size, fun k hk ho => (hb.block k hk).trans (h.block k hk ho)⟩
theorem SrcI.belowB {w w' : World} {g B k : Nat} {v : Value} {zs : List Int} (h : SrcI w g v zs k) (hb : Below B w w') (hg : g < B) (hv : ∀ p n c, zs ≠ [] → v = .slice (some p) n c → p.block < B) : SrcI w' g v zs k := by
  obtain ⟨x0, x1, ⟨s, x2⟩, y1, y2, hr, hn, hl⟩ := h
  refine ⟨(hb.cell (p := ⟨g, 0, none⟩) hg).trans x0, (hb.cell (p := ⟨g, 1, none⟩) hg).trans x1, ⟨s, (hb.cell (p := ⟨g, 2, none⟩) hg).trans x2⟩, (hb.frozen (p := ⟨g, 1, none⟩) hg).trans y1, (hb.frozen (p := ⟨g, 2, none⟩) hg).trans y2, ?_, hn, hl⟩
  by_cases hz : zs = []
  · obtain ⟨ao, cap, hv, hcp, hrr, _⟩ := hr
    exact ⟨ao, cap, hv, hcp, hrr, .inl hz⟩
  · exact hr.kept fun p n c hv2 hp => hb.block _ (hv p n c hz hv2)

set_option maxRecDepth 100000 in
set_option maxHeartbeats 800000 in
theorem pick_spec (g : Nat) (v : Value) (zs : List Int) (k : Nat) (n : Int) (w : World) (hs : SrcI w g v zs k) (hk : k ≤ 1000000) (h1 : 1 ≤ n) (h2 : n ≤ 200) : Calls Try.prog 64 #[.pointer (some ⟨g, 0, none⟩), .int .i64 n] w (Drawn w g v zs k n) := by
  have Hs := Lib.hid hs
  clear hs
  by_cases hn : n ≤ 1
  · go_enter Try.func64, Try.ntmps64
    go_wp2
    go_ret
    exact ⟨0, k, rfl, by omega, by omega, by omega, by omega, Hs.out, Only.refl _ _ _⟩
  · have hn0 : ¬ (n = 0) := by omega
    have hn2 : ¬ (200 < n) := by omega
    go_enter Try.func64, Try.ntmps64
    go_wp2_with fail
    (go_at_call 124; ((with_reducible refine (next_spec g v zs k _ Hs.out hk).mono ?_); rintro e w' ⟨z, k', rfl, hz0, hz1, hk1, hk2, hs2, ho⟩))
    have Hs2 := Lib.hid hs2
    have Ho := Lib.hid ho
    clear hs2 ho
    have hq : 0 ≤ z % n ∧ z % n < n := ⟨Int.emod_nonneg _ hn0, Int.emod_lt_of_pos _ (by omega)⟩
    have hq2 : 0 ≤ z.tmod n ∧ z.tmod n < n := by rw [Int.tmod_eq_emod_of_nonneg hz0]; exact hq
    go_wp2_with fail
    go_ret
    exact ⟨_, k', rfl, by first | exact hq.1 | exact hq2.1, by first | exact hq.2 | exact hq2.2, hk1, hk2, Hs2.out, Ho.out⟩

/-- A drawn list: as many terms as wanted, small ones, the last one not zero. -/
def DrawnL (n : Nat) (zs : List Int) : Prop := zs.length = n ∧ BdI 5 zs ∧ (1 ≤ n → lastZ zs ≠ 0)

theorem bd_snoc {M z : Int} {zs : List Int} (hM : 0 ≤ M) (h : BdI M zs) (hz : -M ≤ z ∧ z ≤ M) : BdI M (zs ++ [z]) := fun i => by
  simp only [List.getD] at h ⊢
  rcases Nat.lt_trichotomy i zs.length with h1 | h1 | h1
  · rw [List.getElem?_append_left h1]; exact h i
  · subst h1; rw [List.getElem?_append_right (Nat.le_refl _)]; simpa using hz
  · rw [List.getElem?_append_right (by omega), List.getElem?_eq_none (by simp; omega)]; simp; omega
theorem last_snoc (zs : List Int) (z : Int) : lastZ (zs ++ [z]) = z := by
  unfold lastZ
  simp [List.getD]
def RTerms (g n : Nat) (w : World) (e : Ending) (w' : World) : Prop := ∃ u zs, e = .returned u ∧ OwI w' w.heap.size u zs ∧ DrawnL n zs ∧ Only g (g + 1) w w'
set_option maxRecDepth 100000 in
set_option maxHeartbeats 1600000 in
theorem terms_draw (g : Nat) (v : Value) (bs : List Int) (k : Nat) (n : Nat) (w : World) (hs : SrcI w g v bs k) (hk : k ≤ 1000) (hn : n ≤ 100) (hvb : ∀ p n c, bs ≠ [] → v = .slice (some p) n c → p.block < w.heap.size) :
    Calls Try.prog 91 #[.pointer (some ⟨g, 0, none⟩), .int .i64 n, .int .i64 5] w (RTerms g n w) := by
  have Hs := Lib.hid hs
  have sg := World.block_lt_of_cell? _ _ hs.1
  simp only at sg
  clear hs
  go_enter Try.func91, Try.ntmps91
  go_wp2
  go_loopw [7, 8] (fun ov i wr => ∃ (j k' : Nat) (zs : List Int), j ≤ n ∧ i = .int .i64 j ∧ zs.length = j ∧ BdI 5 zs ∧ (j = n → 1 ≤ n → lastZ zs ≠ 0) ∧ RowI wr w.heap.size ov zs ∧ SrcI wr g v bs k' ∧ k' ≤ 1000 + 2 * j ∧ Only g (g + 1) w wr) (fun _ i _ => n - (intOf i).toNat)
  case atStart => exact ⟨0, k, [], Nat.zero_le _, rfl, rfl, fun i => by simp, by omega, RowI.emptyB (E := fun _ => 0) (by simp) (by simp), Hs.out.below (by (repeat' (first | (with_reducible exact Below.refl _ _) | (with_reducible assumption) | (with_reducible refine Below.alloc ?_ ?_ _) | (with_reducible refine Below.setCell ?_ ?_ _) | (with_reducible refine Below.drew ?_) | (with_reducible refine Below.via (by assumption) ?_ ?_) | go_size))), by omega, Only.ofBelow (by (repeat' (first | (with_reducible exact Below.refl _ _) | (with_reducible assumption) | (with_reducible refine Below.alloc ?_ ?_ _) | (with_reducible refine Below.setCell ?_ ?_ _) | (with_reducible refine Below.drew ?_) | (with_reducible refine Below.via (by assumption) ?_ ?_) | go_size)))⟩
  case round =>
    obtain ⟨j, k', zs, hj, rfl, hl, hbd, hlast, hrow, hsr, hk', hon⟩ := hrel
    have Hrow := Lib.hid hrow
    have Hbd := Lib.hid hbd
    have Hsr := Lib.hid hsr
    have Hon := Lib.hid hon
    have hsz := hon.size
    have Hlast := Lib.hid hlast
    clear hrow hbd hsr hon hlast
    by_cases hlt : j < n
    · go_wp2_with fail
      (go_at_call 64; ((with_reducible refine (pick_spec g v bs k' 11 _ Hsr.out (by omega) (by omega) (by omega)).mono ?_); rintro e w1 ⟨z, k2, rfl, hz0, hz1, hk1, hk2, hs2, ho⟩))
      have Hs2 := Lib.hid hs2
      have Ho := Lib.hid ho
      have hz2 := ho.size
      have Hr2 := Lib.hid (Hrow.out.only ho (by omega))
      clear hs2 ho
      have hw1 : IntKind.i64.wrap (z - 5) = z - 5 := IntWalk.i64_in _ ⟨by omega, by omega⟩
      have hlen : zs.length ≤ 1099511627776 := by omega
      by_cases hjl : j + 1 = n
      · have hjl2 : (j : Int) = (n : Int) - 1 := by omega
        have hjl3 : ((j : Int) == (n : Int) - 1) = true := by simpa using hjl2
        by_cases hz5 : z = 5
        · subst hz5
          go_wp2_with (at_builtin; refine wpList_pushI Hr2.out rfl _ _ rfl int64S_under hlen (by first | omega | (simp only [World.size_alloc]; omega)) rfl rfl ?_; intro v1 w1 hr1 hb1)
          go_roundw
          case rel => exact ⟨j + 1, k2, zs ++ [1], by omega, by go_num, by rw [List.length_append, List.length_singleton, hl], bd_snoc (by omega) Hbd.out (by omega), fun _ _ => by rw [last_snoc]; omega, hr1, Hs2.out.belowB hb1 (by omega) hvb, by omega, (Hon.out.trans Ho.out).below' hb1⟩
          case measure => simp [intOf]; omega
        · have hz6 : ¬ (z - 5 = 0) := by omega
          go_wp2_with (at_builtin; refine wpList_pushI Hr2.out rfl _ _ rfl int64S_under hlen (by first | omega | (simp only [World.size_alloc]; omega)) rfl rfl ?_; intro v1 w1 hr1 hb1)
          go_roundw
          case rel => exact ⟨j + 1, k2, zs ++ [z - 5], by omega, by go_num, by rw [List.length_append, List.length_singleton, hl], bd_snoc (by omega) Hbd.out (by omega), fun _ _ => by rw [last_snoc]; omega, hr1, Hs2.out.belowB hb1 (by omega) hvb, by omega, (Hon.out.trans Ho.out).below' hb1⟩
          case measure => simp [intOf]; omega
      · have hjl2 : ¬ ((j : Int) = (n : Int) - 1) := by omega
        go_wp2_with (at_builtin; refine wpList_pushI Hr2.out rfl _ _ rfl int64S_under hlen (by first | omega | (simp only [World.size_alloc]; omega)) rfl rfl ?_; intro v1 w1 hr1 hb1)
        go_roundw
        case rel => exact ⟨j + 1, k2, zs ++ [z - 5], by omega, by go_num, by rw [List.length_append, List.length_singleton, hl], bd_snoc (by omega) Hbd.out (by omega), fun h _ => by omega, hr1, Hs2.out.belowB hb1 (by omega) hvb, by omega, (Hon.out.trans Ho.out).below' hb1⟩
        case measure => simp [intOf]; omega
    · obtain rfl : j = n := by omega
      go_wp2
      go_ret
      exact ⟨_, zs, rfl, Hrow.out.own, ⟨hl, Hbd.out, by first | exact Hlast.out rfl | exact Hlast.out trivial⟩, Hon.out⟩

/-- A drawn whole: two to five terms from -5 to 5, the last one not 0. -/
structure Small (zs : List Int) : Prop where
  two : 2 ≤ zs.length
  five : zs.length ≤ 5
  bd : BdI 5 zs
  last : lastZ zs ≠ 0
def RSmall (w : World) (e : Ending) (w' : World) : Prop := ∃ u zs, e = .returned (.agg #[u]) ∧ OwI w' w.heap.size u zs ∧ Small zs ∧ Below w.heap.size w w'
set_option maxRecDepth 100000 in
set_option maxHeartbeats 800000 in
theorem degree_draw (v : Value) (bs : List Int) (w : World) (hv : RdB w v bs) (hl : bs.length ≤ 1048576) : Calls Try.prog 19 #[v, .int .i64 4] w (RSmall w) := by
  have Hv := Lib.hid hv
  have hvb := hv.blk
  obtain ⟨ao, cap, rfl⟩ := hv.shape
  clear hv
  go_enter Try.func19, Try.ntmps19
  go_wp2_with fail
  (go_at_call 63; ((with_reducible refine (from_spec _ bs _ (Hv.out.below (by (repeat' (first | (with_reducible exact Below.refl _ _) | (with_reducible assumption) | (with_reducible refine Below.alloc ?_ ?_ _) | (with_reducible refine Below.setCell ?_ ?_ _) | (with_reducible refine Below.drew ?_) | (with_reducible refine Below.via (by assumption) ?_ ?_) | go_size)))) hl).mono ?_); rintro e w1 ⟨rfl, hs1, hb1⟩))
  obtain ⟨c1, f1⟩ := bcell hb1
  have z1 := hb1.size
  simp only [World.size_alloc] at z1
  have Hs1 := Lib.hid hs1
  have sg := World.block_lt_of_cell? _ _ hs1.1
  have x0 : w1.cell? ⟨w.heap.size, 0, none⟩ = some (.slice none 0 0) := by go_simp
  have y0 : w1.frozen? ⟨w.heap.size, 0, none⟩ = false := by go_simp
  have Bw1 := Lib.hid (show Below w.heap.size w w1 by (repeat' (first | (with_reducible exact Below.refl _ _) | (with_reducible assumption) | (with_reducible refine Below.alloc ?_ ?_ _) | (with_reducible refine Below.setCell ?_ ?_ _) | (with_reducible refine Below.drew ?_) | (with_reducible refine Below.via (by assumption) ?_ ?_) | go_size)))
  simp only [World.size_alloc] at sg Hs1
  clear hs1 hb1 c1 f1
  go_wp2_with fail
  (go_at_call 64; ((with_reducible refine (pick_spec (w.heap.size + 1) _ bs 0 4 _ Hs1.out (by omega) (by omega) (by omega)).mono ?_); rintro e w2 ⟨z, k2, rfl, hz0, hz1, hk1, hk2, hs2, ho⟩))
  have Hs2 := Lib.hid hs2
  have z2 := ho.size
  replace x0 := (ho.cell (p := ⟨w.heap.size, 0, none⟩) (by simp only; omega) (by simp only; omega)).trans x0
  replace y0 : w2.frozen? ⟨w.heap.size, 0, none⟩ = false := (World.frozen?_of_block (w := w1) (a := ⟨w.heap.size, 0, none⟩) (ho.block w.heap.size (by omega) (by omega))).trans y0
  have Bw2 := Lib.hid (Bw1.out.trans (ho.toBelow (B := w.heap.size) (by omega) (by omega)))
  obtain ⟨n, hn⟩ : ∃ n : Nat, 2 + z = n := ⟨(2 + z).toNat, by omega⟩
  have hn2 : n ≤ 5 ∧ 2 ≤ n := by omega
  clear hs2 ho
  go_wp2_with fail
  (try rw [hn])
  (go_at_call 91; ((with_reducible refine (terms_draw (w.heap.size + 1) _ bs k2 n _ Hs2.out (by omega) (by omega) (fun p n c h1 h2 => by have := hvb h1 p n c h2; omega)).mono ?_); rintro e w3 ⟨u, zs, rfl, ho3, hd3, hn3⟩))
  have Ho3 := Lib.hid ho3
  have Hd3 := Lib.hid hd3
  have z3 := hn3.size
  replace x0 := (hn3.cell (p := ⟨w.heap.size, 0, none⟩) (by simp only; omega) (by simp only; omega)).trans x0
  replace y0 : w3.frozen? ⟨w.heap.size, 0, none⟩ = false := (World.frozen?_of_block (w := w2) (a := ⟨w.heap.size, 0, none⟩) (hn3.block w.heap.size (by omega) (by omega))).trans y0
  have Bw3 := Lib.hid (Bw2.out.trans (hn3.toBelow (B := w.heap.size) (by omega) (by omega)))
  obtain ⟨p3, n3, rfl⟩ := ho3.rd.shape
  have l3 : w.heap.size < w3.heap.size := by omega
  clear ho3 hd3 hn3
  go_wp2_with fail
  (try simp only [Exit.inBlock, Exit.then]); refine bodyPost_ret (by simp [results, Try.results19, go_sem, *]; try rfl) rfl ?_
  exact ⟨_, zs, rfl, OwI.mono (B := w2.heap.size) (OwI.setCell Ho3.out (by show w.heap.size < _; omega) _) (by omega), ⟨by rw [Hd3.out.1]; omega, by rw [Hd3.out.1]; omega, Hd3.out.2.1, Hd3.out.2.2 (by omega)⟩, by have h := Bw3.out; (repeat' (first | (with_reducible exact Below.refl _ _) | (with_reducible assumption) | (with_reducible refine Below.alloc ?_ ?_ _) | (with_reducible refine Below.setCell ?_ ?_ _) | (with_reducible refine Below.drew ?_) | (with_reducible refine Below.via (by assumption) ?_ ?_) | go_size))⟩

end Go.Proofs.Ytlnjkjogedbhfaa
