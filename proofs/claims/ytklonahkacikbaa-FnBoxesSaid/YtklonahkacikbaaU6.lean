/- Draws: the source of numbers. Conditions: bytes; small counters. -/
import Derived.Test.YtklonahkacikbaaU5
import Derived.ProofKit
import Derived.OpenShut
import Derived.Deep.Slices
import Derived.ChangeSlices
import Derived.WalkSmall
import Derived.Test.YtklonahkacikbaaU1
import Derived.Test.YtklonahkacikbaaU2
import Derived.Test.YtklonahkacikbaaU3
namespace Go.Proofs.Ytklonahkacikbaa
set_option linter.unusedSimpArgs false
set_option linter.unusedVariables false
open Go Go.RowKit

/-- Nothing but blocks from 'lo' on below 'hi' has turned. -/
structure Only (lo hi : Nat) (w w' : World) : Prop where
  os : w'.os = w.os
  tape : w'.tape = w.tape
  output : w'.output = w.output
  size : w.heap.size ≤ w'.heap.size
  block : ∀ k, k < w.heap.size → (k < lo ∨ hi ≤ k) → w'.heap[k]? = w.heap[k]?
theorem Only.refl (lo hi : Nat) (w : World) : Only lo hi w w := ⟨rfl, rfl, rfl, Nat.le_refl _, fun _ _ _ => rfl⟩
theorem Only.ofBelow {lo hi : Nat} {w w' : World} (h : Below w.heap.size w w') : Only lo hi w w' := ⟨h.os, h.tape, h.output, h.size, fun k hk _ => h.block k hk⟩
theorem Only.trans {lo hi : Nat} {a b c : World} (h : Only lo hi a b) (h2 : Only lo hi b c) : Only lo hi a c :=
  ⟨h2.os.trans h.os, h2.tape.trans h.tape, h2.output.trans h.output, Nat.le_trans h.size h2.size, fun k hk ho => (h2.block k (Nat.lt_of_lt_of_le hk h.size) ho).trans (h.block k hk ho)⟩
theorem Only.wide {lo hi lo2 hi2 : Nat} {w w' : World} (h : Only lo hi w w') (h1 : lo2 ≤ lo) (h2 : hi ≤ hi2) : Only lo2 hi2 w w' := ⟨h.os, h.tape, h.output, h.size, fun k hk ho => h.block k hk (by omega)⟩
theorem Only.toBelow {lo hi B : Nat} {w w' : World} (h : Only lo hi w w') (hB : B ≤ lo) (hs : B ≤ w.heap.size) : Below B w w' := ⟨h.os, h.tape, h.output, h.size, fun k hk => h.block k (by omega) (by omega)⟩
theorem Only.setCell {lo hi : Nat} {a w : World} (h : Only lo hi a w) {p : Addr} (h1 : lo ≤ p.block) (h2 : p.block < hi) (u : Value) : Only lo hi a (w.setCell p u) :=
  h.trans ⟨rfl, rfl, rfl, by simp [World.setCell], fun k _ hk => Below.heap_setCell _ _ _ _ (by omega)⟩
theorem Only.cell {lo hi : Nat} {w w' : World} (h : Only lo hi w w') {p : Addr} (hp : p.block < w.heap.size) (ho : p.block < lo ∨ hi ≤ p.block) : w'.cell? p = w.cell? p := World.cell?_of_block (w := w) (h.block p.block hp ho)


theorem drewN_below (w : World) : ∀ m, Below w.heap.size w (w.drewN m) := fun m => ⟨rfl, rfl, rfl, Nat.le_refl _, fun _ _ => rfl⟩
theorem low_byte (x : Int) : 0 ≤ wrap64 (bits BinOp.and IntKind.u64 (IntKind.u64.wrap x / 1099511627776) 255) ∧ wrap64 (bits BinOp.and IntKind.u64 (IntKind.u64.wrap x / 1099511627776) 255) < 256 := by
  have h0 : 0 ≤ IntKind.u64.wrap x ∧ IntKind.u64.wrap x < 18446744073709551616 := by
    simp only [IntKind.wrap, IntKind.bits, IntKind.signed, Bool.false_and, Bool.false_eq_true, if_false]
    exact ⟨Int.emod_nonneg _ (by decide), Int.emod_lt_of_pos _ (by decide)⟩
  generalize IntKind.u64.wrap x = y at *
  have h1 : 0 ≤ y / 1099511627776 ∧ y / 1099511627776 ≤ 18446744073709551615 := by omega
  generalize y / 1099511627776 = E at *
  have h := bits_and_u64_nat E.toNat 255 (by omega) (by omega)
  rw [show (255 : Nat) = 2 ^ 8 - 1 by decide, Nat.and_two_pow_sub_one_eq_mod, Int.toNat_of_nonneg h1.1] at h
  have h2 : bits BinOp.and IntKind.u64 E 255 = ((E.toNat % 2 ^ 8 : Nat) : Int) := h
  rw [h2]
  have h3 : E.toNat % 2 ^ 8 < 256 := Nat.mod_lt _ (by decide)
  generalize E.toNat % 2 ^ 8 = r at *
  unfold wrap64
  omega
/-- A slice of bytes that reads as 'zs'. -/
def RdB (w : World) (v : Value) (zs : List Int) : Prop :=
  ∃ ao cap, v = .slice ao zs.length cap ∧ (zs.length ≤ cap ∧ cap ≤ maxLen) ∧ (∀ i, 0 ≤ zs.getD i 0 ∧ zs.getD i 0 ≤ 255) ∧ (zs = [] ∨ ∃ b off, ao = some ⟨b, off, none⟩ ∧ ∀ i, i < zs.length → w.cell? ⟨b, off + i, none⟩ = some (.int .u8 (zs.getD i 0)))
theorem RdB.kept {w w' : World} {v : Value} {zs : List Int} (h : RdB w v zs) (hb : ∀ p n c, v = .slice (some p) n c → p.block < w.heap.size → w'.heap[p.block]? = w.heap[p.block]?) : RdB w' v zs := by
  obtain ⟨ao, cap, hv, hcp, hr, hc⟩ := h
  refine ⟨ao, cap, hv, hcp, hr, ?_⟩
  rcases hc with hc | ⟨b, off, ha, hc⟩
  · exact .inl hc
  · refine .inr ⟨b, off, ha, fun i hi => ?_⟩
    rw [World.cell?_of_block (w := w) (a := ⟨b, off + i, none⟩) (show w'.heap[b]? = w.heap[b]? from hb ⟨b, off, none⟩ _ _ (by rw [hv, ha]) (show b < w.heap.size from World.block_lt_of_cell? w ⟨b, off + i, none⟩ (hc i hi)))]
    exact hc i hi
theorem RdB.below {w w' : World} {v : Value} {zs : List Int} (h : RdB w v zs) (hb : Below w.heap.size w w') : RdB w' v zs := h.kept fun _ _ _ _ hl => hb.block _ hl
theorem RdB.shape {w : World} {v : Value} {zs : List Int} (h : RdB w v zs) : ∃ ao cap, v = .slice ao zs.length cap := by
  obtain ⟨ao, cap, rfl, _⟩ := h
  exact ⟨ao, cap, rfl⟩
theorem RdB.blk {w : World} {v : Value} {zs : List Int} (h : RdB w v zs) (hn : zs ≠ []) : ∀ p n c, v = .slice (some p) n c → p.block < w.heap.size := by
  obtain ⟨ao, cap, rfl, _, _, hc⟩ := h
  intro p n c hv
  rcases hc with hc | ⟨b, off, ha, hc⟩
  · exact absurd hc hn
  · rw [ha] at hv
    simp only [Value.slice.injEq, Option.some.injEq] at hv
    rw [← hv.1]
    exact (show b < w.heap.size from World.block_lt_of_cell? w ⟨b, off + 0, none⟩ (hc 0 (List.length_pos_iff.2 hn)))

section
variable {H : Type} {enc : TypeId × Value → H} {P : Program} {w : World} {spare : Nat → Bool} {held : Bool}
theorem open_bytes {t e : TypeId} {b0 base : Nat} {v : Value} {d : DataW H} {p : List MemPlace} (ht : P.underlying t = some (.slice e)) (he : P.underlying e = some (.int .u8)) (hc : P.cellsOf e = 1)
    (hv : Value.okWide P w .any b0 t v) (h : DataW.Trod enc P w base spare held t v d p) : ∃ zs : List Int, RdB w v zs := by
  obtain ⟨a1, len, cap, rfl⟩ := Go.WideShapes.okWide_slice ht hv
  obtain ⟨fuel, hf⟩ := h
  rcases Go.ChangeShapes.open_ints ht he hc hf with ⟨hcs, _⟩ | ⟨a, len', cap', zs, hcs, _, hl, hm, hz, _, hcell, hwz⟩
  · simp [Value.cells] at hcs
    obtain ⟨rfl, rfl, rfl⟩ := hcs
    exact ⟨[], none, 0, rfl, ⟨by simp, by simp [maxLen]⟩, fun i => by simp, .inl rfl⟩
  · simp [Value.cells] at hcs
    obtain ⟨rfl, rfl, rfl⟩ := hcs
    have hlm : len ≤ zs.length := by rw [hz]; split <;> omega
    have hget : ∀ i, i < len → (zs.take len).getD i 0 = zs.getD i 0 := fun i hi => by simp [List.getD, List.getElem?_take, hi]
    have hlen : (zs.take len).length = len := by rw [List.length_take]; omega
    refine ⟨zs.take len, some a, cap, by rw [hlen], by rw [hlen]; exact ⟨hl, hm⟩, fun i => ?_, ?_⟩
    · by_cases hi : i < len
      · rw [hget i hi]
        have h1 := hwz (zs.getD i 0) (by rw [List.getD_eq_getElem?_getD, List.getElem?_eq_getElem (show i < zs.length by omega)]; simp)
        simpa [Lit.wf, IntKind.min, IntKind.max, IntKind.bits, IntKind.signed] using h1
      · rw [List.getD, List.getElem?_eq_none (by rw [hlen]; omega)]; simp
    · by_cases h0 : len = 0
      · left; rw [h0]; rfl
      · right
        obtain ⟨b, off, spot⟩ := a
        have h1 := hcell 0 (by omega)
        have hspot : spot = none := by simpa [Addr.add] using World.cell?_spot h1
        subst hspot
        refine ⟨b, off, rfl, fun i hi => ?_⟩
        rw [hlen] at hi
        rw [hget i hi]
        have h2 := hcell i (by omega)
        by_cases hi0 : i = 0
        · subst hi0; simpa [Addr.add] using h2
        · simpa [Addr.add, hi0] using h2
end

def longB (a b : List Int) : Bool := decide (1048576 < a.length ∨ 1048576 < b.length)
set_option maxRecDepth 100000 in
set_option maxHeartbeats 400000 in
theorem b10Long_law (va vb : Value) (a b : List Int) (w : World) (ha : RdB w va a) (hb : RdB w vb b) : Calls Try.prog 4 #[va, vb] w fun e w' => e = .returned (.bool (longB a b)) ∧ w = w' := by
  obtain ⟨aoa, ca, rfl⟩ := ha.shape
  obtain ⟨aob, cb, rfl⟩ := hb.shape
  clear ha hb
  by_cases h1 : (1048576 : Int) < (a.length : Int)
  · have Hd := Lib.hid (show longB a b = true by simp [longB]; omega)
    go_enter Try.func4, Try.ntmps4
    go_wp2
    go_ret
    rw [Hd.out]
    exact ⟨rfl, rfl⟩
  · by_cases h2 : (1048576 : Int) < (b.length : Int)
    · have Hd := Lib.hid (show longB a b = true by simp [longB]; omega)
      go_enter Try.func4, Try.ntmps4
      go_wp2
      go_ret
      rw [Hd.out]
      exact ⟨rfl, rfl⟩
    · have Hd := Lib.hid (show longB a b = false by simp [longB]; omega)
      go_enter Try.func4, Try.ntmps4
      go_wp2
      go_ret
      rw [Hd.out]
      exact ⟨rfl, rfl⟩

set_option maxRecDepth 100000 in
set_option maxHeartbeats 400000 in
theorem b10At_law (va : Value) (a : List Int) (i n : Int) (w : World) (ha : RdB w va a) (h0 : 0 ≤ i) (h1 : i ≤ 1000000) (h2 : 1 < n) (h3 : n ≤ 1000000) : Calls Try.prog 5 #[va, .int .i64 i, .int .i64 n] w fun e w' => ∃ z, e = .returned (.int .i64 z) ∧ 0 ≤ z ∧ z < n ∧ w = w' := by
  obtain ⟨ao, cap, rfl, hcp, hr, hc⟩ := ha
  have hn0 : ¬ (n = 0) := by omega
  have hn1 : ¬ (n ≤ 1) := by omega
  by_cases hi : i < a.length
  · rcases hc with hc | ⟨b, off, rfl, hc⟩
    · rw [hc] at hi; simp at hi; omega
    · obtain ⟨j, rfl⟩ : ∃ j : Nat, i = j := ⟨i.toNat, by omega⟩
      have c1 := hc j (by omega)
      have hz := hr j
      have hlt : j < a.length := by omega
      generalize a.getD j 0 = z at *
      have hq : 0 ≤ z % n ∧ z % n < n := ⟨Int.emod_nonneg _ hn0, Int.emod_lt_of_pos _ (by omega)⟩
      have hq2 : 0 ≤ z.tmod n ∧ z.tmod n < n := by rw [Int.tmod_eq_emod_of_nonneg hz.1]; exact hq
      have hw1 : IntKind.i64.wrap z = z := IntWalk.i64_in _ ⟨by omega, by omega⟩
      clear hr hc
      go_enter Try.func5, Try.ntmps5
      go_wp2
      go_ret
      exact ⟨_, rfl, by first | exact hq.1 | exact hq2.1, by first | exact hq.2 | exact hq2.2, rfl⟩
  · have hq : 0 ≤ (i * 37 + 11) % n ∧ (i * 37 + 11) % n < n := ⟨Int.emod_nonneg _ hn0, Int.emod_lt_of_pos _ (by omega)⟩
    have hq2 : 0 ≤ (i * 37 + 11).tmod n ∧ (i * 37 + 11).tmod n < n := by rw [Int.tmod_eq_emod_of_nonneg (by omega)]; exact hq
    clear hr hc
    go_enter Try.func5, Try.ntmps5
    go_wp2
    go_ret
    exact ⟨_, rfl, by first | exact hq.1 | exact hq2.1, by first | exact hq.2 | exact hq2.2, rfl⟩

/-- A source of draws in block g. -/
def SrcI (w : World) (g : Nat) (v : Value) (zs : List Int) (k : Nat) : Prop :=
  w.cell? ⟨g, 0, none⟩ = some v ∧ w.cell? ⟨g, 1, none⟩ = some (.int .i64 k) ∧ (∃ s : Int, w.cell? ⟨g, 2, none⟩ = some (.int .u64 s)) ∧ w.frozen? ⟨g, 1, none⟩ = false ∧ w.frozen? ⟨g, 2, none⟩ = false ∧
    RdB w v zs ∧ (∀ p n c, zs ≠ [] → v = .slice (some p) n c → p.block ≠ g) ∧ zs.length ≤ 1048576
theorem SrcI.below {w w' : World} {g : Nat} {v : Value} {zs : List Int} {k : Nat} (h : SrcI w g v zs k) (hb : Below w.heap.size w w') : SrcI w' g v zs k := by
  obtain ⟨x0, x1, ⟨s, x2⟩, y1, y2, hr, hn, hl⟩ := h
  have s0 := World.block_lt_of_cell? _ _ x0
  exact ⟨(hb.cell s0).trans x0, (hb.cell (p := ⟨g, 1, none⟩) s0).trans x1, ⟨s, (hb.cell (p := ⟨g, 2, none⟩) s0).trans x2⟩, (hb.frozen (p := ⟨g, 1, none⟩) s0).trans y1, (hb.frozen (p := ⟨g, 2, none⟩) s0).trans y2, hr.below hb, hn, hl⟩
theorem src_next {w : World} {g : Nat} {v : Value} {zs : List Int} {k : Nat} (h : SrcI w g v zs k) (hg : g < w.heap.size) (m m2 : Nat) (u : Int) :
    SrcI ((((w.drewN m).setCell ⟨g, 1, none⟩ (.int .i64 ((k : Int) + 1))).setCell ⟨g, 2, none⟩ (.int .u64 u)).drewN m2) g v zs (k + 1) ∧
      Only g (g + 1) w ((((w.drewN m).setCell ⟨g, 1, none⟩ (.int .i64 ((k : Int) + 1))).setCell ⟨g, 2, none⟩ (.int .u64 u)).drewN m2) := by
  have ho : Only g (g + 1) w ((((w.drewN m).setCell ⟨g, 1, none⟩ (.int .i64 ((k : Int) + 1))).setCell ⟨g, 2, none⟩ (.int .u64 u)).drewN m2) :=
    ((((Only.ofBelow (lo := g) (hi := g + 1) (drewN_below w m)).setCell (p := ⟨g, 1, none⟩) (Nat.le_refl _) (Nat.lt_succ_self _) _).setCell (p := ⟨g, 2, none⟩) (Nat.le_refl _) (Nat.lt_succ_self _) _)).trans (Only.ofBelow (drewN_below _ m2))
  obtain ⟨x0, x1, ⟨s, x2⟩, y1, y2, hr, hn, hl⟩ := h
  refine ⟨⟨?_, ?_, ⟨u, ?_⟩, ?_, ?_, ?_, hn, hl⟩, ho⟩
  · go_simp
  · rw [show ((k + 1 : Nat) : Int) = (k : Int) + 1 by omega]; go_simp
  · go_simp
  · go_simp
  · go_simp
  · by_cases hz : zs = []
    · obtain ⟨ao, cap, hv, hcp, hrr, _⟩ := hr
      exact ⟨ao, cap, hv, hcp, hrr, .inl hz⟩
    · exact hr.kept fun p n c hv hp => ho.block _ hp (by have := hn p n c hz hv; omega)
/-- A number is drawn. -/
def Drawn (w : World) (g : Nat) (v : Value) (zs : List Int) (k : Nat) (lim : Int) (e : Ending) (w' : World) : Prop :=
  ∃ (z : Int) (k' : Nat), e = .returned (.int .i64 z) ∧ 0 ≤ z ∧ z < lim ∧ k ≤ k' ∧ k' ≤ k + 2 ∧ SrcI w' g v zs k' ∧ Only g (g + 1) w w'

set_option maxRecDepth 100000 in
set_option maxHeartbeats 400000 in
theorem from_spec (v : Value) (zs : List Int) (w : World) (hv : RdB w v zs) (hl : zs.length ≤ 1048576) : Calls Try.prog 17 #[v] w fun e w' => e = .returned (.pointer (some ⟨w.heap.size, 0, none⟩)) ∧ SrcI w' w.heap.size v zs 0 ∧ Below w.heap.size w w' := by
  have Hv := Lib.hid hv
  obtain ⟨ao, cap, rfl⟩ := hv.shape
  clear hv
  go_enter Try.func17, Try.ntmps17
  go_wp2
  go_ret
  exact ⟨rfl, ⟨by go_simp, by go_simp, ⟨0, by go_simp⟩, by go_simp, by go_simp, Hv.out.below (by (repeat' (first | (with_reducible exact Below.refl _ _) | (with_reducible assumption) | (with_reducible refine Below.alloc ?_ ?_ _) | (with_reducible refine Below.setCell ?_ ?_ _) | (with_reducible refine Below.drew ?_) | (with_reducible refine Below.via (by assumption) ?_ ?_) | go_size))), fun p n c hn hs => by have := Hv.out.blk hn p n c hs; omega, hl⟩, by (repeat' (first | (with_reducible exact Below.refl _ _) | (with_reducible assumption) | (with_reducible refine Below.alloc ?_ ?_ _) | (with_reducible refine Below.setCell ?_ ?_ _) | (with_reducible refine Below.drew ?_) | (with_reducible refine Below.via (by assumption) ?_ ?_) | go_size))⟩

set_option maxRecDepth 100000 in
set_option maxHeartbeats 1600000 in
theorem next_spec (g : Nat) (v : Value) (zs : List Int) (k : Nat) (w : World) (hs : SrcI w g v zs k) (hk : k ≤ 1000000) : Calls Try.prog 42 #[.pointer (some ⟨g, 0, none⟩)] w (Drawn w g v zs k 256) := by
  have Hs := Lib.hid hs
  obtain ⟨x0, x1, ⟨s, x2⟩, y1, y2, hr, hn, hl⟩ := hs
  obtain ⟨ao, cap, rfl, hcp, hrg, hc⟩ := hr
  have sg := World.block_lt_of_cell? _ _ x0
  simp only at sg
  by_cases hlt : k < zs.length
  · rcases hc with hc | ⟨b, off, rfl, hc⟩
    · rw [hc] at hlt; simp at hlt
    · have c1 := hc k hlt
      have hz := hrg k
      have hbg := hn _ _ _ (by intro h; rw [h] at hlt; simp at hlt) rfl
      simp only at hbg
      generalize zs.getD k 0 = z at *
      have hw1 : IntKind.i64.wrap z = z := IntWalk.i64_in _ ⟨by omega, by omega⟩
      clear hc hrg hn
      go_enter Try.func42, Try.ntmps42
      go_wp2
      go_quiet (fail)
      go_wp2
      go_quiet (fail)
      go_wp2
      have hk1 : (k : Int) + 1 ≤ zs.length := by omega
      go_quiet (fail)
      go_wp2
      go_ret
      exact ⟨z, k + 1, rfl, by omega, by omega, by omega, by omega, (src_next Hs.out sg _ _ _).1, (src_next Hs.out sg _ _ _).2⟩
  · have hk1 : ¬ ((k : Int) + 1 ≤ zs.length) := by omega
    have hk2 : ¬ ((k : Int) < zs.length) := by omega
    clear hc hrg hn
    go_enter Try.func42, Try.ntmps42
    go_wp2
    go_quiet (fail)
    go_wp2
    go_quiet (fail)
    go_wp2
    go_ret
    refine ⟨_, k + 1, rfl, ?_, ?_, by omega, by omega, (src_next Hs.out sg _ _ _).1, (src_next Hs.out sg _ _ _).2⟩
    · exact (low_byte _).1
    · exact (low_byte _).2

theorem Only.below' {lo hi : Nat} {a b c : World} (h : Only lo hi a b) (hb : Below a.heap.size b c) : Only lo hi a c :=
  ⟨hb.os.trans h.os, hb.tape.trans h.tape, hb.output.trans h.output, Nat.le_trans h.size hb.size, fun k hk ho => (hb.block k hk).trans (h.block k hk ho)⟩
theorem SrcI.belowB {w w' : World} {g B k : Nat} {v : Value} {zs : List Int} (h : SrcI w g v zs k) (hb : Below B w w') (hg : g < B) (hv : ∀ p n c, zs ≠ [] → v = .slice (some p) n c → p.block < B) : SrcI w' g v zs k := by
  obtain ⟨x0, x1, ⟨s, x2⟩, y1, y2, hr, hn, hl⟩ := h
  refine ⟨(hb.cell (p := ⟨g, 0, none⟩) hg).trans x0, (hb.cell (p := ⟨g, 1, none⟩) hg).trans x1, ⟨s, (hb.cell (p := ⟨g, 2, none⟩) hg).trans x2⟩, (hb.frozen (p := ⟨g, 1, none⟩) hg).trans y1, (hb.frozen (p := ⟨g, 2, none⟩) hg).trans y2, ?_, hn, hl⟩
  by_cases hz : zs = []
  · obtain ⟨ao, cap, hv, hcp, hrr, _⟩ := hr
    exact ⟨ao, cap, hv, hcp, hrr, .inl hz⟩
  · exact hr.kept fun p n c hv2 hp => hb.block _ (hv p n c hz hv2)

set_option maxRecDepth 100000 in
set_option maxHeartbeats 800000 in
theorem pick_spec (g : Nat) (v : Value) (zs : List Int) (k : Nat) (n : Int) (w : World) (hs : SrcI w g v zs k) (hk : k ≤ 1000000) (h1 : 1 ≤ n) (h2 : n ≤ 200) : Calls Try.prog 18 #[.pointer (some ⟨g, 0, none⟩), .int .i64 n] w (Drawn w g v zs k n) := by
  have Hs := Lib.hid hs
  clear hs
  by_cases hn : n ≤ 1
  · go_enter Try.func18, Try.ntmps18
    go_wp2
    go_ret
    exact ⟨0, k, rfl, by omega, by omega, by omega, by omega, Hs.out, Only.refl _ _ _⟩
  · have hn0 : ¬ (n = 0) := by omega
    have hn2 : ¬ (200 < n) := by omega
    go_enter Try.func18, Try.ntmps18
    go_wp2_with fail
    (go_at_call 42; ((with_reducible refine (next_spec g v zs k _ Hs.out hk).mono ?_); rintro e w' ⟨z, k', rfl, hz0, hz1, hk1, hk2, hs2, ho⟩))
    have Hs2 := Lib.hid hs2
    have Ho := Lib.hid ho
    clear hs2 ho
    have hq : 0 ≤ z % n ∧ z % n < n := ⟨Int.emod_nonneg _ hn0, Int.emod_lt_of_pos _ (by omega)⟩
    have hq2 : 0 ≤ z.tmod n ∧ z.tmod n < n := by rw [Int.tmod_eq_emod_of_nonneg hz0]; exact hq
    go_wp2_with fail
    go_ret
    exact ⟨_, k', rfl, by first | exact hq.1 | exact hq2.1, by first | exact hq.2 | exact hq2.2, hk1, hk2, Hs2.out, Ho.out⟩

end Go.Proofs.Ytklonahkacikbaa

/- The values of Ieee's words as rational numbers, and what rounding does to them. Conditions: the number does not pass the format's greatest. -/
namespace Go.Proofs.Ytklonahkacikbaa
set_option linter.unusedSimpArgs false
set_option linter.unusedVariables false
open Go

/-- Powers of two. -/
def p2 (e : Int) : Rat := (2 : Rat) ^ e
theorem p2_add (a b : Int) : p2 (a + b) = p2 a * p2 b := Rat.zpow_add (by decide) a b
theorem p2_pos (a : Int) : 0 < p2 a := Rat.zpow_pos (by decide)
theorem p2_zero : p2 0 = 1 := by unfold p2; rfl
theorem p2_nat (n : Nat) : p2 (n : Int) = ((2 ^ n : Nat) : Rat) := by
  unfold p2
  rw [Rat.zpow_natCast, Rat.natCast_pow]
  rfl
theorem p2_neg (a : Int) : p2 a * p2 (-a) = 1 := by rw [← p2_add, Int.add_right_neg, p2_zero]
theorem one_le_p2 (n : Nat) : 1 ≤ p2 (n : Int) := by
  rw [p2_nat]
  have : 1 ≤ 2 ^ n := Nat.one_le_two_pow
  exact_mod_cast this
theorem p2_mono {a b : Int} (h : a ≤ b) : p2 a ≤ p2 b := by
  have e : b = a + ((b - a).toNat : Int) := by omega
  rw [e, p2_add]
  have h1 := one_le_p2 (b - a).toNat
  have h2 := p2_pos a
  have := Rat.mul_le_mul_of_nonneg_left h1 (Rat.le_of_lt h2)
  grind
theorem p2_toNat {a : Int} (h : 0 ≤ a) : p2 a = ((2 ^ a.toNat : Nat) : Rat) := by
  have := p2_nat a.toNat
  rw [Int.toNat_of_nonneg h] at this
  exact this

theorem rcancel {a b c : Rat} (hc : 0 < c) (h : a * c = b * c) : a = b := by
  have h1 : c * c⁻¹ = 1 := Rat.mul_inv_cancel c (by intro h0; rw [h0] at hc; exact absurd hc (by decide))
  have h2 : a * c * c⁻¹ = b * c * c⁻¹ := by rw [h]
  grind

theorem cut_even (s : Bool) (n drop : Nat) :
    2 * (Ieee.Toward.even.cut s n drop * 2 ^ drop) ≤ 2 * n + 2 ^ drop ∧ 2 * n ≤ 2 * (Ieee.Toward.even.cut s n drop * 2 ^ drop) + 2 ^ drop ∧ (2 ^ drop ∣ n → Ieee.Toward.even.cut s n drop * 2 ^ drop = n) := by
  unfold Ieee.Toward.cut
  by_cases h : drop ≤ n.log2 + 2
  · rw [Nat.min_eq_left h, Nat.one_shiftLeft]
    dsimp only
    have hg : 0 < 2 ^ drop := Nat.two_pow_pos drop
    have hd := Nat.div_add_mod n (2 ^ drop)
    have hm := Nat.mod_lt n hg
    generalize hq : n / 2 ^ drop = low at *
    generalize hr : n % 2 ^ drop = rest at *
    rw [Nat.dvd_iff_mod_eq_zero, hr]
    generalize 2 ^ drop = g at *
    rw [Nat.add_mul, Nat.mul_comm low g]
    generalize g * low = p at *
    by_cases h1 : g < 2 * rest
    · simp only [h1, decide_true, Bool.true_or, Bool.toNat_true]
      omega
    · by_cases h2 : g = 2 * rest
      · simp only [h2]
        cases hb : (low % 2 == 1) <;> simp <;> omega
      · have h3 : (g == 2 * rest) = false := by simpa using h2
        simp only [h1, h3, decide_false, Bool.false_and, Bool.or_false, Bool.toNat_false]
        omega
  · have hl : n < 2 ^ (n.log2 + 1) := Nat.lt_log2_self
    have hl2 : (2 : Nat) ^ (n.log2 + 2) = 2 * 2 ^ (n.log2 + 1) := by rw [Nat.pow_succ]; omega
    have hl3 : (2 : Nat) ^ (n.log2 + 2) ≤ 2 ^ drop := Nat.pow_le_pow_right (by decide) (by omega)
    rw [Nat.min_eq_right (by omega), Nat.one_shiftLeft]
    dsimp only
    rw [Nat.div_eq_of_lt (by omega), Nat.mod_eq_of_lt (by omega)]
    have h1 : ¬ (2 ^ (n.log2 + 2) < 2 * n) := by omega
    have h3 : (2 ^ (n.log2 + 2) == 2 * n) = false := by simp; omega
    simp only [h1, h3, decide_false, Bool.false_and, Bool.or_false, Bool.toNat_false]
    refine ⟨by omega, by omega, fun hd => ?_⟩
    have := Nat.eq_zero_of_dvd_of_lt hd (by omega)
    omega

/-- What a datum is worth; 0 where it is no number. -/
def sg (neg : Bool) (q : Rat) : Rat := if neg then -q else q
def valD : Ieee.Datum → Rat
  | .number s m e => sg s ((m : Rat) * p2 e)
  | _ => 0
def isNum : Ieee.Datum → Bool
  | .number .. => true
  | _ => false

/-- Rounding: what is kept, and where. -/
structure Rounds (f : Ieee.Format) (s : Bool) (m : Nat) (e : Int) : Prop where
  ex : ∃ (M : Nat) (P : Int) (c : Nat) (last : Int), f.read (f.nearest s m e) = .number s M P ∧ (M : Rat) * p2 P = (c : Rat) * p2 last ∧
    last = max (e + m.log2 - f.fractionBits) f.leastPlace ∧
    2 * ((c : Rat) * p2 last) ≤ 2 * ((m : Rat) * p2 e) + p2 last ∧ 2 * ((m : Rat) * p2 e) ≤ 2 * ((c : Rat) * p2 last) + p2 last ∧
    ((∃ (m' : Nat) (e' : Int), (m : Rat) * p2 e = (m' : Rat) * p2 e' ∧ last ≤ e') → (c : Rat) * p2 last = (m : Rat) * p2 e)

theorem read_word_num (f : Ieee.Format) (s : Bool) {r : Nat} (hr : r < f.infRung) (hsw : f.infRung < f.signWeight) :
    f.read (f.word s r) = if r < f.binade then .number s r f.leastPlace else .number s (f.binade + r % f.binade) (f.leastPlace + (r / f.binade - 1 : Nat)) := by
  have hw : 0 < f.signWeight := by omega
  have h1 : f.word s r % f.signWeight = r := by
    unfold Ieee.Format.word
    split
    · rw [Nat.add_mod_left, Nat.mod_eq_of_lt (by omega)]
    · rw [Nat.mod_eq_of_lt (by omega)]
  have h2 : (f.word s r / f.signWeight % 2 == 1) = s := by
    unfold Ieee.Format.word
    cases s
    · simp [Nat.div_eq_of_lt (show r < f.signWeight by omega)]
    · simp [Nat.add_div_left _ hw, Nat.div_eq_of_lt (show r < f.signWeight by omega)]
  unfold Ieee.Format.read
  simp only [h1, h2]
  split
  · rfl
  · rfl


theorem nearest_rounds (f : Ieee.Format) (hsw : f.infRung < f.signWeight) (h4 : 4 ≤ 2 ^ f.exponentBits) (s : Bool) (m : Nat) (e : Int) (hm : m ≠ 0)
    (hlt : e + (m.log2 : Int) - (f.fractionBits : Int) - f.leastPlace + 3 < ((2 ^ f.exponentBits : Nat) : Int)) : Rounds f s m e := by
  have hir : f.infRung = (2 ^ f.exponentBits - 1) * f.binade := rfl
  have hbn : f.binade = 2 ^ f.fractionBits := rfl
  have hb0 : 0 < f.binade := by rw [hbn]; exact Nat.two_pow_pos _
  have hm1 : m < 2 ^ (m.log2 + 1) := Nat.lt_log2_self
  have hm2 : 2 ^ m.log2 ≤ m := Nat.log2_self_le hm
  have hN : f.nearest s m e = f.word s (min ((max (e + (m.log2 : Int) - (f.fractionBits : Int)) f.leastPlace - f.leastPlace).toNat * f.binade + Ieee.Toward.even.cut s (m <<< (e - max (e + (m.log2 : Int) - (f.fractionBits : Int)) f.leastPlace).toNat) (max (e + (m.log2 : Int) - (f.fractionBits : Int)) f.leastPlace - e).toNat) f.infRung) := by
    unfold Ieee.Format.nearest
    rw [if_neg hm]
  have hl0 : max (e + (m.log2 : Int) - (f.fractionBits : Int)) f.leastPlace = max (e + (m.log2 : Int) - (f.fractionBits : Int)) f.leastPlace := rfl
  generalize hlast : max (e + (m.log2 : Int) - (f.fractionBits : Int)) f.leastPlace = last at hN
  have hge : f.leastPlace ≤ last := by omega
  have hge2 : e + (m.log2 : Int) - (f.fractionBits : Int) ≤ last := by omega
  -- what is kept
  obtain ⟨kept, hkept, hk1, hk2, hk3, hk4, hk5⟩ : ∃ kept, Ieee.Toward.even.cut s (m <<< (e - last).toNat) (last - e).toNat = kept ∧
      kept ≤ 2 * f.binade ∧ (f.leastPlace < last → f.binade ≤ kept) ∧
      2 * ((kept : Rat) * p2 last) ≤ 2 * ((m : Rat) * p2 e) + p2 last ∧ 2 * ((m : Rat) * p2 e) ≤ 2 * ((kept : Rat) * p2 last) + p2 last ∧
      ((∃ (m' : Nat) (e' : Int), (m : Rat) * p2 e = (m' : Rat) * p2 e' ∧ last ≤ e') → (kept : Rat) * p2 last = (m : Rat) * p2 e) := by
    refine ⟨_, rfl, ?_⟩
    by_cases h : last ≤ e
    · have hd : (last - e).toNat = 0 := by omega
      have cz : ∀ n, Ieee.Toward.even.cut s n 0 = n := fun n => by
        have := (cut_even s n 0).2.2 (by simp)
        simpa using this
      rw [hd, cz, Nat.shiftLeft_eq]
      have hp : ((m * 2 ^ (e - last).toNat : Nat) : Rat) * p2 last = (m : Rat) * p2 e := by
        have h1 : p2 e = ((2 ^ (e - last).toNat : Nat) : Rat) * p2 last := by rw [← p2_toNat (by omega), ← p2_add]; congr 1; omega
        rw [h1, Rat.natCast_mul]; grind
      have hpos := p2_pos last
      refine ⟨?_, fun hl => ?_, by rw [hp]; grind, by rw [hp]; grind, fun _ => hp⟩
      · have : m * 2 ^ (e - last).toNat ≤ 2 ^ (m.log2 + 1) * 2 ^ (e - last).toNat := Nat.mul_le_mul_right _ (Nat.le_of_lt hm1)
        have h2 : 2 ^ (m.log2 + 1) * 2 ^ (e - last).toNat ≤ 2 ^ (f.fractionBits + 1) := by rw [← Nat.pow_add]; exact Nat.pow_le_pow_right (by decide) (by omega)
        have h3 : 2 ^ (f.fractionBits + 1) = 2 * f.binade := by rw [hbn, Nat.pow_succ]; omega
        omega
      · have h2 : 2 ^ m.log2 * 2 ^ (e - last).toNat = f.binade := by rw [← Nat.pow_add, hbn]; congr 1; omega
        have := Nat.mul_le_mul_right (2 ^ (e - last).toNat) hm2
        omega
    · have hz : (e - last).toNat = 0 := by omega
      rw [hz, Nat.shiftLeft_zero]
      obtain ⟨c1, c2, c3⟩ := cut_even s m (last - e).toNat
      generalize Ieee.Toward.even.cut s m (last - e).toNat = c at *
      have hp : p2 last = ((2 ^ (last - e).toNat : Nat) : Rat) * p2 e := by rw [← p2_toNat (by omega), ← p2_add]; congr 1; omega
      have hpe := p2_pos e
      have hcp : (c : Rat) * p2 last = ((c * 2 ^ (last - e).toNat : Nat) : Rat) * p2 e := by rw [hp, Rat.natCast_mul]; grind
      have hg : 0 < 2 ^ (last - e).toNat := Nat.two_pow_pos _
      refine ⟨?_, fun hl => ?_, ?_, ?_, ?_⟩
      · have h1 : 2 ^ (m.log2 + 1) ≤ 2 ^ (f.fractionBits + 1) * 2 ^ (last - e).toNat := by rw [← Nat.pow_add]; exact Nat.pow_le_pow_right (by decide) (by omega)
        have h3 : 2 ^ (f.fractionBits + 1) = 2 * f.binade := by rw [hbn, Nat.pow_succ]; omega
        rw [h3] at h1
        generalize 2 ^ (last - e).toNat = g at *
        rcases Nat.lt_or_ge (2 * f.binade) c with hc | hc
        · have := Nat.mul_le_mul_right g (show 2 * f.binade + 1 ≤ c from hc)
          rw [Nat.add_mul] at this
          omega
        · exact hc
      · have h1 : f.binade * 2 ^ (last - e).toNat ≤ m := by
          refine Nat.le_trans (Nat.le_of_eq ?_) hm2
          rw [hbn, ← Nat.pow_add]; congr 1; omega
        generalize 2 ^ (last - e).toNat = g at *
        rcases Nat.lt_or_ge c f.binade with hc | hc
        · have := Nat.mul_le_mul_right g (show c + 1 ≤ f.binade from hc)
          rw [Nat.add_mul] at this
          omega
        · exact hc
      · rw [hcp, hp]
        have h1 : 2 * ((c * 2 ^ (last - e).toNat : Nat) : Rat) ≤ 2 * (m : Rat) + ((2 ^ (last - e).toNat : Nat) : Rat) := by exact_mod_cast c1
        have := Rat.mul_le_mul_of_nonneg_right h1 (Rat.le_of_lt hpe)
        grind
      · rw [hcp, hp]
        have h1 : 2 * (m : Rat) ≤ 2 * ((c * 2 ^ (last - e).toNat : Nat) : Rat) + ((2 ^ (last - e).toNat : Nat) : Rat) := by exact_mod_cast c2
        have := Rat.mul_le_mul_of_nonneg_right h1 (Rat.le_of_lt hpe)
        grind
      · rintro ⟨m', e', h1, h2⟩
        rw [hcp]
        have h3 : p2 e' = ((2 ^ (e' - e).toNat : Nat) : Rat) * p2 e := by rw [← p2_toNat (by omega), ← p2_add]; congr 1; omega
        have h4 : (m : Rat) * p2 e = ((m' * 2 ^ (e' - e).toNat : Nat) : Rat) * p2 e := by rw [h1, h3, Rat.natCast_mul]; grind
        have h5 : (m : Rat) = ((m' * 2 ^ (e' - e).toNat : Nat) : Rat) := rcancel hpe h4
        have h6 : m = m' * 2 ^ (e' - e).toNat := by exact_mod_cast h5
        have h7 : 2 ^ (last - e).toNat ∣ m := by
          rw [h6]
          exact Nat.dvd_trans (Nat.pow_dvd_pow 2 (by omega)) (Nat.dvd_mul_left _ _)
        rw [c3 h7]
  rw [hkept] at hN
  -- the rung
  obtain ⟨T, hT⟩ : ∃ T : Nat, last = f.leastPlace + (T : Int) := ⟨(last - f.leastPlace).toNat, by omega⟩
  have hTn : (last - f.leastPlace).toNat = T := by omega
  rw [hTn] at hN
  have hTE : T + 3 < 2 ^ f.exponentBits := by
    have h5 : (T : Int) + 3 < ((2 ^ f.exponentBits : Nat) : Int) := by
      have h6 : (4 : Int) ≤ ((2 ^ f.exponentBits : Nat) : Int) := by exact_mod_cast h4
      omega
    exact_mod_cast h5
  have hr : T * f.binade + kept < f.infRung := by
    rw [hir]
    have h1 : (T + 3) * f.binade ≤ (2 ^ f.exponentBits - 1) * f.binade := Nat.mul_le_mul_right _ (by omega)
    rw [Nat.add_mul] at h1
    omega
  rw [Nat.min_eq_left (Nat.le_of_lt hr)] at hN
  have hread := read_word_num f s hr hsw
  rw [← hN] at hread
  have hTl : ∀ {x : Nat}, 0 < T → f.binade ≤ kept := fun h => hk2 (by omega)
  by_cases h1 : T * f.binade + kept < f.binade
  · rw [if_pos h1] at hread
    have h0 : T = 0 := by
      rcases Nat.eq_zero_or_pos T with h | h
      · exact h
      · have := Nat.mul_le_mul_right f.binade (show 1 ≤ T from h); omega
    subst h0
    refine ⟨_, _, kept, last, hread, ?_, hlast.symm, hk3, hk4, hk5⟩
    rw [hT]; simp
  · rw [if_neg h1] at hread
    have hkb : f.binade ≤ kept := by
      rcases Nat.eq_zero_or_pos T with h | h
      · subst h; omega
      · exact hk2 (by omega)
    rcases Nat.lt_or_ge kept (2 * f.binade) with h2 | h2
    · have e1 : T * f.binade + kept = (kept - f.binade) + f.binade * (T + 1) := by rw [Nat.mul_add, Nat.mul_comm f.binade T]; omega
      have e2 : (T * f.binade + kept) % f.binade = kept - f.binade := by rw [e1, Nat.add_mul_mod_self_left, Nat.mod_eq_of_lt (by omega)]
      have e3 : (T * f.binade + kept) / f.binade = T + 1 := by rw [e1, Nat.add_mul_div_left _ _ hb0, Nat.div_eq_of_lt (by omega)]; omega
      rw [e2, e3] at hread
      refine ⟨_, _, kept, last, hread, ?_, hlast.symm, hk3, hk4, hk5⟩
      rw [hT, show f.binade + (kept - f.binade) = kept by omega]; simp
    · have hk : kept = 2 * f.binade := by omega
      have e1 : T * f.binade + kept = 0 + f.binade * (T + 2) := by rw [Nat.mul_add, Nat.mul_comm f.binade T]; omega
      have e2 : (T * f.binade + kept) % f.binade = 0 := by rw [e1, Nat.add_mul_mod_self_left, Nat.zero_mod]
      have e3 : (T * f.binade + kept) / f.binade = T + 2 := by rw [e1, Nat.add_mul_div_left _ _ hb0, Nat.zero_div]; omega
      rw [e2, e3] at hread
      refine ⟨_, _, kept, last, hread, ?_, hlast.symm, hk3, hk4, hk5⟩
      have h3 : f.leastPlace + ((T + 2 - 1 : Nat) : Int) = 1 + last := by omega
      rw [h3, hk, p2_add, Rat.natCast_mul, show p2 1 = 2 from rfl, Nat.add_zero, show ((2 : Nat) : Rat) = 2 from rfl]
      grind
end Go.Proofs.Ytklonahkacikbaa

/- The operations of floats on values: sums, products, quotients, conversions, with their errors. Conditions: the result does not pass the kind's greatest number. -/
namespace Go.Proofs.Ytklonahkacikbaa
set_option linter.unusedSimpArgs false
set_option linter.unusedVariables false
open Go

/-- Absolute values. -/
def A (x : Rat) : Rat := if 0 ≤ x then x else -x
theorem A_nonneg (x : Rat) : 0 ≤ A x := by unfold A; split <;> grind
theorem A_le {x r : Rat} : A x ≤ r ↔ x ≤ r ∧ -x ≤ r := by unfold A; split <;> grind
theorem le_A (x : Rat) : x ≤ A x ∧ -x ≤ A x := by unfold A; split <;> grind
theorem A_neg (x : Rat) : A (-x) = A x := by unfold A; split <;> split <;> grind
theorem A_zero : A 0 = 0 := rfl
theorem A_of_nonneg {x : Rat} (h : 0 ≤ x) : A x = x := if_pos h
theorem A_of_nonpos {x : Rat} (h : x ≤ 0) : A x = -x := by unfold A; split <;> grind
theorem A_add (x y : Rat) : A (x + y) ≤ A x + A y := by
  have hx := le_A x; have hy := le_A y; rw [A_le]; grind
theorem A_sub (x y : Rat) : A (x - y) ≤ A x + A y := by
  have hx := le_A x; have hy := le_A y; rw [A_le]; grind
theorem A_comm (x y : Rat) : A (x - y) = A (y - x) := by rw [← A_neg]; congr 1; grind
theorem A_mul (x y : Rat) : A (x * y) = A x * A y := by
  rcases Rat.le_total (a := 0) (b := x) with hx | hx <;> rcases Rat.le_total (a := 0) (b := y) with hy | hy
  · have := Rat.mul_nonneg hx hy
    rw [A_of_nonneg hx, A_of_nonneg hy, A_of_nonneg this]
  · have := Rat.mul_nonneg hx (show 0 ≤ -y by grind)
    rw [A_of_nonneg hx, A_of_nonpos hy, A_of_nonpos (by grind)]; grind
  · have := Rat.mul_nonneg (show 0 ≤ -x by grind) hy
    rw [A_of_nonpos hx, A_of_nonneg hy, A_of_nonpos (by grind)]; grind
  · have := Rat.mul_nonneg (show 0 ≤ -x by grind) (show 0 ≤ -y by grind)
    rw [A_of_nonpos hx, A_of_nonpos hy, A_of_nonneg (by grind)]; grind
theorem A_eq_zero {x : Rat} (h : A x = 0) : x = 0 := by have := le_A x; grind
theorem A_pos {x : Rat} (h : x ≠ 0) : 0 < A x := by have := le_A x; grind
theorem A_sg (s : Bool) (x : Rat) : A (sg s x) = A x := by cases s <;> simp [sg, A_neg]
theorem mul_le {a b c d : Rat} (h1 : a ≤ b) (h2 : c ≤ d) (h3 : 0 ≤ c) (h4 : 0 ≤ b) : a * c ≤ b * d :=
  Rat.le_trans (Rat.mul_le_mul_of_nonneg_right h1 h3) (Rat.mul_le_mul_of_nonneg_left h2 h4)

/-- The kinds' numbers: the relative error, the absolute one, and what no number may reach. -/
def uK : FloatKind → Rat | .f32 => p2 (-24) | .f64 => p2 (-53)
def eK : FloatKind → Rat | .f32 => p2 (-150) | .f64 => p2 (-1075)
def tK : FloatKind → Rat | .f32 => p2 127 | .f64 => p2 1023
def bK : FloatKind → Nat | .f32 => 24 | .f64 => 53
def lK : FloatKind → Int | .f32 => -149 | .f64 => -1074
def fN (k : FloatKind) (x : Nat) : Bool := isNum (k.decode x)
def vN (k : FloatKind) (x : Nat) : Rat := valD (k.decode x)

theorem fN_not_nan {k : FloatKind} {x : Nat} (h : fN k x = true) : isN k x = false := by
  unfold fN at h; unfold isN
  cases hd : k.decode x <;> simp [hd, isNum, Ieee.Datum.isNaN] at h ⊢
theorem fN_nrm {k : FloatKind} {x : Nat} (h : fN k x = true) : nrm k x = x := nrm_of_not (fN_not_nan h)
theorem isNum_ex {d : Ieee.Datum} (h : isNum d = true) : ∃ s m e, d = .number s m e := by
  cases d <;> simp [isNum] at h ⊢
theorem A_val (s : Bool) (m : Nat) (e : Int) : A (valD (.number s m e)) = (m : Rat) * p2 e := by
  have h : (0 : Rat) ≤ (m : Rat) * p2 e := Rat.mul_nonneg (by exact_mod_cast Nat.zero_le m) (Rat.le_of_lt (p2_pos e))
  show A (sg s _) = _
  rw [A_sg, A_of_nonneg h]

theorem p2_lt {a b : Int} (h : p2 a < p2 b) : a < b := by
  rcases Int.lt_or_le a b with h1 | h1
  · exact h1
  · have := p2_mono h1; grind
theorem format_facts (k : FloatKind) : k.format.infRung < k.format.signWeight ∧ 4 ≤ 2 ^ k.format.exponentBits ∧ (k.format.fractionBits : Int) = bK k - 1 ∧ k.format.leastPlace = lK k := by
  cases k
  · have h := single_facts
    exact ⟨by rw [show FloatKind.f32.format = Ieee.single from rfl, h.1, h.2.2.1]; decide, by decide, rfl, h.2.2.2⟩
  · have h := double_facts
    exact ⟨by rw [show FloatKind.f64.format = Ieee.double from rfl, h.1, h.2.2.1]; decide, by decide, rfl, h.2.2.2.1⟩

/-- A number written and read: its error, and that there is none where the number has few digits. -/
theorem write_ok (k : FloatKind) (d : Ieee.Datum) (hd : isNum d = true) (ht : A (valD d) < tK k) :
    fN k (k.encode d) = true ∧ A (vN k (k.encode d) - valD d) ≤ uK k * A (valD d) + eK k ∧
    (∀ (m' : Nat) (e' : Int), A (valD d) = (m' : Rat) * p2 e' → m' < 2 ^ bK k → lK k ≤ e' → vN k (k.encode d) = valD d) ∧
    (∀ (m' : Nat) (e' : Int), A (valD d) = (m' : Rat) * p2 e' → m' < 2 ^ bK k → lK k ≤ e' → A (vN k (k.encode d)) = A (valD d)) := by
  obtain ⟨s, m, e, rfl⟩ := isNum_ex hd
  rw [A_val] at ht ⊢
  obtain ⟨hsw, h4, hfb, hlp⟩ := format_facts k
  have hu : 0 < uK k := by cases k <;> exact p2_pos _
  have he : 0 < eK k := by cases k <;> exact p2_pos _
  by_cases hm : m = 0
  · subst hm
    have hr : k.decode (k.encode (.number s 0 e)) = .number s 0 k.format.leastPlace := by
      have hw : k.encode (.number s 0 e) = k.format.word s 0 := by show k.format.nearest s 0 e = _; unfold Ieee.Format.nearest; simp
      have hb0 : 0 < k.format.binade := Nat.two_pow_pos _
      have hir : 0 < k.format.infRung := by cases k <;> decide +kernel
      show k.format.read _ = _
      rw [hw, read_word_num k.format s hir hsw, if_pos hb0]
    have h0 : valD (.number s 0 e) = 0 := A_eq_zero (by rw [A_val, show ((0 : Nat) : Rat) = 0 from rfl]; grind)
    have h1 : vN k (k.encode (.number s 0 e)) = 0 := by unfold vN; rw [hr]; exact A_eq_zero (by rw [A_val, show ((0 : Nat) : Rat) = 0 from rfl]; grind)
    refine ⟨by unfold fN; rw [hr]; rfl, ?_, fun _ _ _ _ _ => by rw [h1, h0], fun _ _ _ _ _ => by rw [h1, A_zero, show ((0 : Nat) : Rat) = 0 from rfl]; grind⟩
    rw [h1, h0, show ((0 : Nat) : Rat) = 0 from rfl, show (0 : Rat) - 0 = 0 by grind, A_zero]
    grind
  · have hlog : (2 : Nat) ^ m.log2 ≤ m := Nat.log2_self_le hm
    have hpe := p2_pos e
    have hlq : p2 ((m.log2 : Int) + e) ≤ (m : Rat) * p2 e := by
      rw [p2_add, p2_nat]
      exact Rat.mul_le_mul_of_nonneg_right (by exact_mod_cast hlog) (Rat.le_of_lt hpe)
    have hR := nearest_rounds k.format hsw h4 s m e hm (by
      rw [hfb, hlp]
      have h1 : (m.log2 : Int) + e < (match k with | .f32 => 127 | .f64 => 1023) := by
        cases k
        · exact p2_lt (b := 127) (by have : A 0 = 0 := rfl; have ht' : (m : Rat) * p2 e < p2 127 := ht; grind)
        · exact p2_lt (b := 1023) (by have : A 0 = 0 := rfl; have ht' : (m : Rat) * p2 e < p2 1023 := ht; grind)
      cases k
      · have : ((2 ^ FloatKind.f32.format.exponentBits : Nat) : Int) = 256 := by decide
        rw [this]; simp only [bK, lK] at *; omega
      · have : ((2 ^ FloatKind.f64.format.exponentBits : Nat) : Int) = 2048 := by decide
        rw [this]; simp only [bK, lK] at *; omega)
    obtain ⟨M, P, c, last, hread, hMP, hl, hc1, hc2, hc3⟩ := hR.ex
    have hdec : k.decode (k.encode (.number s m e)) = .number s M P := hread
    have hv : vN k (k.encode (.number s m e)) = sg s ((c : Rat) * p2 last) := by unfold vN; rw [hdec]; show sg s _ = _; rw [hMP]
    have hvd : valD (.number s m e) = sg s ((m : Rat) * p2 e) := rfl
    have hdiff : vN k (k.encode (.number s m e)) - valD (.number s m e) = sg s ((c : Rat) * p2 last - (m : Rat) * p2 e) := by
      rw [hv, hvd]; cases s <;> simp [sg]; grind
    have hex : ∀ (m' : Nat) (e' : Int), (m : Rat) * p2 e = (m' : Rat) * p2 e' → m' < 2 ^ bK k → lK k ≤ e' → (c : Rat) * p2 last = (m : Rat) * p2 e := by
      intro m' e' h1 h2 h3
      refine hc3 ⟨m', e', h1, ?_⟩
      rw [hl, hfb, hlp]
      have h5 : (m.log2 : Int) + e < bK k + e' := by
        refine p2_lt ?_
        rw [p2_add (bK k : Int) e', p2_nat]
        have h6 : ((m' : Nat) : Rat) < ((2 ^ bK k : Nat) : Rat) := by exact_mod_cast h2
        have h7 := Rat.mul_lt_mul_of_pos_right h6 (p2_pos e')
        grind
      omega
    refine ⟨by unfold fN; rw [hdec]; rfl, ?_, fun m' e' h1 h2 h3 => by rw [hv, hvd, hex m' e' h1 h2 h3], fun m' e' h1 h2 h3 => by
      rw [hv, A_sg, hex m' e' h1 h2 h3]; exact A_of_nonneg (Rat.mul_nonneg (by exact_mod_cast Nat.zero_le m) (Rat.le_of_lt hpe))⟩
    rw [hdiff, A_sg, A_le]
    have hlast : p2 last ≤ 2 * (uK k * ((m : Rat) * p2 e)) + 2 * eK k := by
      have huq : 0 ≤ uK k * ((m : Rat) * p2 e) := Rat.mul_nonneg (Rat.le_of_lt hu) (Rat.mul_nonneg (by exact_mod_cast Nat.zero_le m) (Rat.le_of_lt hpe))
      rcases Int.le_total (e + (m.log2 : Int) - (k.format.fractionBits : Int)) k.format.leastPlace with h | h
      · have : last = lK k := by omega
        have h2 : p2 last = 2 * eK k := by rw [this]; cases k <;> (show p2 _ = 2 * p2 _; rw [show (2 : Rat) = p2 1 from rfl, ← p2_add]; congr 1)
        grind
      · have h1 : last = (m.log2 : Int) + e + (1 - bK k) := by omega
        have h2 : p2 (1 - bK k : Int) = 2 * uK k := by cases k <;> (show p2 _ = 2 * p2 _; rw [show (2 : Rat) = p2 1 from rfl, ← p2_add]; congr 1)
        rw [h1, p2_add, h2]
        have := Rat.mul_le_mul_of_nonneg_right hlq (show 0 ≤ 2 * uK k by grind)
        grind
    grind
end Go.Proofs.Ytklonahkacikbaa
