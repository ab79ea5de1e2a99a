/- Draws: the source of numbers. Conditions: bytes; small counters. -/
import Derived.Test.YtlnjkjogedbhfaaIL2
import Derived.Test.YtlnjkjogedbhfaaIOpen
import Derived.ChangeSlices
import Derived.WalkSmall
namespace Go.Proofs.Ytlnjkjogedbhfaa
open Go Go.RowKit
set_option linter.unusedSimpArgs false
set_option linter.unusedVariables false

theorem low_byte (x : Int) : 0 ≤ wrap64 (bits BinOp.and IntKind.u64 (IntKind.u64.wrap x / 1099511627776) 255) ∧ wrap64 (bits BinOp.and IntKind.u64 (IntKind.u64.wrap x / 1099511627776) 255) < 256 := by
  have h0 : 0 ≤ IntKind.u64.wrap x ∧ IntKind.u64.wrap x < 18446744073709551616 := by
    simp only [IntKind.wrap, IntKind.bits, IntKind.signed, Bool.false_and, Bool.false_eq_true, if_false]
    exact ⟨Int.emod_nonneg _ (by decide), Int.emod_lt_of_pos _ (by decide)⟩
  generalize IntKind.u64.wrap x = y at *
  have h1 : 0 ≤ y / 1099511627776 ∧ y / 1099511627776 ≤ 18446744073709551615 := by omega
  generalize y / 1099511627776 = E at *
  have h := bits_and_u64_nat E.toNat 255 (by omega) (by omega)
  rw [show (255 : Nat) = 2 ^ 8 - 1 by decide, Nat.and_two_pow_sub_one_eq_mod, Int.toNat_of_nonneg h1.1] at h
  have h2 : bits BinOp.and IntKind.u64 E 255 = ((E.toNat % 2 ^ 8 : Nat) : Int) := h
  rw [h2]
  have h3 : E.toNat % 2 ^ 8 < 256 := Nat.mod_lt _ (by decide)
  generalize E.toNat % 2 ^ 8 = r at *
  unfold wrap64
  omega
/-- A slice of bytes that reads as 'zs'. -/
def RdB (w : World) (v : Value) (zs : List Int) : Prop :=
  ∃ ao cap, v = .slice ao zs.length cap ∧ (zs.length ≤ cap ∧ cap ≤ maxLen) ∧ (∀ i, 0 ≤ zs.getD i 0 ∧ zs.getD i 0 ≤ 255) ∧ (zs = [] ∨ ∃ b off, ao = some ⟨b, off, none⟩ ∧ ∀ i, i < zs.length → w.cell? ⟨b, off + i, none⟩ = some (.int .u8 (zs.getD i 0)))
theorem RdB.kept {w w' : World} {v : Value} {zs : List Int} (h : RdB w v zs) (hb : ∀ p n c, v = .slice (some p) n c → p.block < w.heap.size → w'.heap[p.block]? = w.heap[p.block]?) : RdB w' v zs := by
  obtain ⟨ao, cap, hv, hcp, hr, hc⟩ := h
  refine ⟨ao, cap, hv, hcp, hr, ?_⟩
  rcases hc with hc | ⟨b, off, ha, hc⟩
  · exact .inl hc
  · refine .inr ⟨b, off, ha, fun i hi => ?_⟩
    rw [World.cell?_of_block (w := w) (a := ⟨b, off + i, none⟩) (show w'.heap[b]? = w.heap[b]? from hb ⟨b, off, none⟩ _ _ (by rw [hv, ha]) (show b < w.heap.size from World.block_lt_of_cell? w ⟨b, off + i, none⟩ (hc i hi)))]
    exact hc i hi
theorem RdB.below {w w' : World} {v : Value} {zs : List Int} (h : RdB w v zs) (hb : Below w.heap.size w w') : RdB w' v zs := h.kept fun _ _ _ _ hl => hb.block _ hl
theorem RdB.shape {w : World} {v : Value} {zs : List Int} (h : RdB w v zs) : ∃ ao cap, v = .slice ao zs.length cap := by
  obtain ⟨ao, cap, rfl, _⟩ := h
  exact ⟨ao, cap, rfl⟩
theorem RdB.blk {w : World} {v : Value} {zs : List Int} (h : RdB w v zs) (hn : zs ≠ []) : ∀ p n c, v = .slice (some p) n c → p.block < w.heap.size := by
  obtain ⟨ao, cap, rfl, _, _, hc⟩ := h
  intro p n c hv
  rcases hc with hc | ⟨b, off, ha, hc⟩
  · exact absurd hc hn
  · rw [ha] at hv
    simp only [Value.slice.injEq, Option.some.injEq] at hv
    rw [← hv.1]
    exact (show b < w.heap.size from World.block_lt_of_cell? w ⟨b, off + 0, none⟩ (hc 0 (List.length_pos_iff.2 hn)))

section
variable {H : Type} {enc : TypeId × Value → H} {P : Program} {w : World} {spare : Nat → Bool} {held : Bool}
theorem open_bytes {t e : TypeId} {b0 base : Nat} {v : Value} {d : DataW H} {p : List MemPlace} (ht : P.underlying t = some (.slice e)) (he : P.underlying e = some (.int .u8)) (hc : P.cellsOf e = 1)
    (hv : Value.okWide P w .any b0 t v) (h : DataW.Trod enc P w base spare held t v d p) : ∃ zs : List Int, RdB w v zs := by
  obtain ⟨a1, len, cap, rfl⟩ := Go.WideShapes.okWide_slice ht hv
  obtain ⟨fuel, hf⟩ := h
  rcases Go.ChangeShapes.open_ints ht he hc hf with ⟨hcs, _⟩ | ⟨a, len', cap', zs, hcs, _, hl, hm, hz, _, hcell, hwz⟩
  · simp [Value.cells] at hcs
    obtain ⟨rfl, rfl, rfl⟩ := hcs
    exact ⟨[], none, 0, rfl, ⟨by simp, by simp [maxLen]⟩, fun i => by simp, .inl rfl⟩
  · simp [Value.cells] at hcs
    obtain ⟨rfl, rfl, rfl⟩ := hcs
    have hlm : len ≤ zs.length := by rw [hz]; split <;> omega
    have hget : ∀ i, i < len → (zs.take len).getD i 0 = zs.getD i 0 := fun i hi => by simp [List.getD, List.getElem?_take, hi]
    have hlen : (zs.take len).length = len := by rw [List.length_take]; omega
    refine ⟨zs.take len, some a, cap, by rw [hlen], by rw [hlen]; exact ⟨hl, hm⟩, fun i => ?_, ?_⟩
    · by_cases hi : i < len
      · rw [hget i hi]
        have h1 := hwz (zs.getD i 0) (by rw [List.getD_eq_getElem?_getD, List.getElem?_eq_getElem (show i < zs.length by omega)]; simp)
        simpa [Lit.wf, IntKind.min, IntKind.max, IntKind.bits, IntKind.signed] using h1
      · rw [List.getD, List.getElem?_eq_none (by rw [hlen]; omega)]; simp
    · by_cases h0 : len = 0
      · left; rw [h0]; rfl
      · right
        obtain ⟨b, off, spot⟩ := a
        have h1 := hcell 0 (by omega)
        have hspot : spot = none := by simpa [Addr.add] using World.cell?_spot h1
        subst hspot
        refine ⟨b, off, rfl, fun i hi => ?_⟩
        rw [hlen] at hi
        rw [hget i hi]
        have h2 := hcell i (by omega)
        by_cases hi0 : i = 0
        · subst hi0; simpa [Addr.add] using h2
        · simpa [Addr.add, hi0] using h2
end

def longB (a b : List Int) : Bool := decide (1048576 < a.length ∨ 1048576 < b.length)
set_option maxRecDepth 100000 in
set_option maxHeartbeats 400000 in
theorem b10Long_law (va vb : Value) (a b : List Int) (w : World) (ha : RdB w va a) (hb : RdB w vb b) : Calls Try.prog 13 #[va, vb] w fun e w' => e = .returned (.bool (longB a b)) ∧ w = w' := by
  obtain ⟨aoa, ca, rfl⟩ := ha.shape
  obtain ⟨aob, cb, rfl⟩ := hb.shape
  clear ha hb
  by_cases h1 : (1048576 : Int) < (a.length : Int)
  · have Hd := Lib.hid (show longB a b = true by simp [longB]; omega)
    go_enter Try.func13, Try.ntmps13
    go_wp2
    go_ret
    rw [Hd.out]
    exact ⟨rfl, rfl⟩
  · by_cases h2 : (1048576 : Int) < (b.length : Int)
    · have Hd := Lib.hid (show longB a b = true by simp [longB]; omega)
      go_enter Try.func13, Try.ntmps13
      go_wp2
      go_ret
      rw [Hd.out]
      exact ⟨rfl, rfl⟩
    · have Hd := Lib.hid (show longB a b = false by simp [longB]; omega)
      go_enter Try.func13, Try.ntmps13
      go_wp2
      go_ret
      rw [Hd.out]
      exact ⟨rfl, rfl⟩

set_option maxRecDepth 100000 in
set_option maxHeartbeats 400000 in
theorem b10At_law (va : Value) (a : List Int) (i n : Int) (w : World) (ha : RdB w va a) (h0 : 0 ≤ i) (h1 : i ≤ 1000000) (h2 : 1 < n) (h3 : n ≤ 1000000) : Calls Try.prog 14 #[va, .int .i64 i, .int .i64 n] w fun e w' => ∃ z, e = .returned (.int .i64 z) ∧ 0 ≤ z ∧ z < n ∧ w = w' := by
  obtain ⟨ao, cap, rfl, hcp, hr, hc⟩ := ha
  have hn0 : ¬ (n = 0) := by omega
  have hn1 : ¬ (n ≤ 1) := by omega
  by_cases hi : i < a.length
  · rcases hc with hc | ⟨b, off, rfl, hc⟩
    · rw [hc] at hi; simp at hi; omega
    · obtain ⟨j, rfl⟩ : ∃ j : Nat, i = j := ⟨i.toNat, by omega⟩
      have c1 := hc j (by omega)
      have hz := hr j
      have hlt : j < a.length := by omega
      generalize a.getD j 0 = z at *
      have hq : 0 ≤ z % n ∧ z % n < n := ⟨Int.emod_nonneg _ hn0, Int.emod_lt_of_pos _ (by omega)⟩
      have hq2 : 0 ≤ z.tmod n ∧ z.tmod n < n := by rw [Int.tmod_eq_emod_of_nonneg hz.1]; exact hq
      have hw1 : IntKind.i64.wrap z = z := IntWalk.i64_in _ ⟨by omega, by omega⟩
      clear hr hc
      go_enter Try.func14, Try.ntmps14
      go_wp2
      go_ret
      exact ⟨_, rfl, by first | exact hq.1 | exact hq2.1, by first | exact hq.2 | exact hq2.2, rfl⟩
  · have hq : 0 ≤ (i * 37 + 11) % n ∧ (i * 37 + 11) % n < n := ⟨Int.emod_nonneg _ hn0, Int.emod_lt_of_pos _ (by omega)⟩
    have hq2 : 0 ≤ (i * 37 + 11).tmod n ∧ (i * 37 + 11).tmod n < n := by rw [Int.tmod_eq_emod_of_nonneg (by omega)]; exact hq
    clear hr hc
    go_enter Try.func14, Try.ntmps14
    go_wp2
    go_ret
    exact ⟨_, rfl, by first | exact hq.1 | exact hq2.1, by first | exact hq.2 | exact hq2.2, rfl⟩

/-- A source of draws in block g. -/
def SrcI (w : World) (g : Nat) (v : Value) (zs : List Int) (k : Nat) : Prop :=
  w.cell? ⟨g, 0, none⟩ = some v ∧ w.cell? ⟨g, 1, none⟩ = some (.int .i64 k) ∧ (∃ s : Int, w.cell? ⟨g, 2, none⟩ = some (.int .u64 s)) ∧ w.frozen? ⟨g, 1, none⟩ = false ∧ w.frozen? ⟨g, 2, none⟩ = false ∧
    RdB w v zs ∧ (∀ p n c, zs ≠ [] → v = .slice (some p) n c → p.block ≠ g) ∧ zs.length ≤ 1048576
theorem SrcI.below {w w' : World} {g : Nat} {v : Value} {zs : List Int} {k : Nat} (h : SrcI w g v zs k) (hb : Below w.heap.size w w') : SrcI w' g v zs k := by
  obtain ⟨x0, x1, ⟨s, x2⟩, y1, y2, hr, hn, hl⟩ := h
  have s0 := World.block_lt_of_cell? _ _ x0
  exact ⟨(hb.cell s0).trans x0, (hb.cell (p := ⟨g, 1, none⟩) s0).trans x1, ⟨s, (hb.cell (p := ⟨g, 2, none⟩) s0).trans x2⟩, (hb.frozen (p := ⟨g, 1, none⟩) s0).trans y1, (hb.frozen (p := ⟨g, 2, none⟩) s0).trans y2, hr.below hb, hn, hl⟩
theorem src_next {w : World} {g : Nat} {v : Value} {zs : List Int} {k : Nat} (h : SrcI w g v zs k) (hg : g < w.heap.size) (m m2 : Nat) (u : Int) :
    SrcI ((((w.drewN m).setCell ⟨g, 1, none⟩ (.int .i64 ((k : Int) + 1))).setCell ⟨g, 2, none⟩ (.int .u64 u)).drewN m2) g v zs (k + 1) ∧
      Only g (g + 1) w ((((w.drewN m).setCell ⟨g, 1, none⟩ (.int .i64 ((k : Int) + 1))).setCell ⟨g, 2, none⟩ (.int .u64 u)).drewN m2) := by
  have ho : Only g (g + 1) w ((((w.drewN m).setCell ⟨g, 1, none⟩ (.int .i64 ((k : Int) + 1))).setCell ⟨g, 2, none⟩ (.int .u64 u)).drewN m2) :=
    ((((Only.ofBelow (lo := g) (hi := g + 1) (drewN_below w m)).setCell (p := ⟨g, 1, none⟩) (Nat.le_refl _) (Nat.lt_succ_self _) _).setCell (p := ⟨g, 2, none⟩) (Nat.le_refl _) (Nat.lt_succ_self _) _)).trans (Only.ofBelow (drewN_below _ m2))
  obtain ⟨x0, x1, ⟨s, x2⟩, y1, y2, hr, hn, hl⟩ := h
  refine ⟨⟨?_, ?_, ⟨u, ?_⟩, ?_, ?_, ?_, hn, hl⟩, ho⟩
  · go_simp
  · rw [show ((k + 1 : Nat) : Int) = (k : Int) + 1 by omega]; go_simp
  · go_simp
  · go_simp
  · go_simp
  · by_cases hz : zs = []
    · obtain ⟨ao, cap, hv, hcp, hrr, _⟩ := hr
      exact ⟨ao, cap, hv, hcp, hrr, .inl hz⟩
    · exact hr.kept fun p n c hv hp => ho.block _ hp (by have := hn p n c hz hv; omega)
/-- A number is drawn. -/
def Drawn (w : World) (g : Nat) (v : Value) (zs : List Int) (k : Nat) (lim : Int) (e : Ending) (w' : World) : Prop :=
  ∃ (z : Int) (k' : Nat), e = .returned (.int .i64 z) ∧ 0 ≤ z ∧ z < lim ∧ k ≤ k' ∧ k' ≤ k + 2 ∧ SrcI w' g v zs k' ∧ Only g (g + 1) w w'

set_option maxRecDepth 100000 in
set_option maxHeartbeats 400000 in
theorem from_spec (v : Value) (zs : List Int) (w : World) (hv : RdB w v zs) (hl : zs.length ≤ 1048576) : Calls Try.prog 63 #[v] w fun e w' => e = .returned (.pointer (some ⟨w.heap.size, 0, none⟩)) ∧ SrcI w' w.heap.size v zs 0 ∧ Below w.heap.size w w' := by
  have Hv := Lib.hid hv
  obtain ⟨ao, cap, rfl⟩ := hv.shape
  clear hv
  go_enter Try.func63, Try.ntmps63
  go_wp2
  go_ret
  exact ⟨rfl, ⟨by go_simp, by go_simp, ⟨0, by go_simp⟩, by go_simp, by go_simp, Hv.out.below (by (repeat' (first | (with_reducible exact Below.refl _ _) | (with_reducible assumption) | (with_reducible refine Below.alloc ?_ ?_ _) | (with_reducible refine Below.setCell ?_ ?_ _) | (with_reducible refine Below.drew ?_) | (with_reducible refine Below.via (by assumption) ?_ ?_) | go_size))), fun p n c hn hs => by have := Hv.out.blk hn p n c hs; omega, hl⟩, by (repeat' (first | (with_reducible exact Below.refl _ _) | (with_reducible assumption) | (with_reducible refine Below.alloc ?_ ?_ _) | (with_reducible refine Below.setCell ?_ ?_ _) | (with_reducible refine Below.drew ?_) | (with_reducible refine Below.via (by assumption) ?_ ?_) | go_size))⟩

set_option maxRecDepth 100000 in
set_option maxHeartbeats 1600000 in
theorem next_spec (g : Nat) (v : Value) (zs : List Int) (k : Nat) (w : World) (hs : SrcI w g v zs k) (hk : k ≤ 1000000) : Calls Try.prog 124 #[.pointer (some ⟨g, 0, none⟩)] w (Drawn w g v zs k 256) := by
  have Hs := Lib.hid hs
  obtain ⟨x0, x1, ⟨s, x2⟩, y1, y2, hr, hn, hl⟩ := hs
  obtain ⟨ao, cap, rfl, hcp, hrg, hc⟩ := hr
  have sg := World.block_lt_of_cell? _ _ x0
  simp only at sg
  by_cases hlt : k < zs.length
  · rcases hc with hc | ⟨b, off, rfl, hc⟩
    · rw [hc] at hlt; simp at hlt
    · have c1 := hc k hlt
      have hz := hrg k
      have hbg := hn _ _ _ (by intro h; rw [h] at hlt; simp at hlt) rfl
      simp only at hbg
      generalize zs.getD k 0 = z at *
      have hw1 : IntKind.i64.wrap z = z := IntWalk.i64_in _ ⟨by omega, by omega⟩
      clear hc hrg hn
      go_enter Try.func124, Try.ntmps124
      go_wp2
      go_quiet (fail)
      go_wp2
      go_quiet (fail)
      go_wp2
      have hk1 : (k : Int) + 1 ≤ zs.length := by omega
      go_quiet (fail)
      go_wp2
      go_ret
      exact ⟨z, k + 1, rfl, by omega, by omega, by omega, by omega, (src_next Hs.out sg _ _ _).1, (src_next Hs.out sg _ _ _).2⟩
  · have hk1 : ¬ ((k : Int) + 1 ≤ zs.length) := by omega
    have hk2 : ¬ ((k : Int) < zs.length) := by omega
    clear hc hrg hn
    go_enter Try.func124, Try.ntmps124
    go_wp2
    go_quiet (fail)
    go_wp2
    go_quiet (fail)
    go_wp2
    go_ret
    refine ⟨_, k + 1, rfl, ?_, ?_, by omega, by omega, (src_next Hs.out sg _ _ _).1, (src_next Hs.out sg _ _ _).2⟩
    · exact (low_byte _).1
    · exact (low_byte _).2

end Go.Proofs.Ytlnjkjogedbhfaa
