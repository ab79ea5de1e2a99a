/- Euclid with cofactors: the program's walk. Conditions: those of the lifting. -/
import Derived.Test.YtlnjkjogedbhfaaI50
import Derived.Test.YtlnjkjogedbhfaaI19
import Derived.Deep.RegionWith
import Derived.Deep.DeepCutAuto
namespace Go.Proofs.Ytlnjkjogedbhfaa
open Go Go.RowKit
set_option linter.unusedSimpArgs false
set_option linter.unusedVariables false

/-- The call's boxes. -/
def BX (h0 k : Nat) : Prop := h0 ≤ k ∧ k ≤ h0 + 12 ∧ k ≠ h0 + 5 ∧ k ≠ h0 + 6 ∧ k ≠ h0 + 9 ∧ k ≠ h0 + 10
/-- What is read lies in no box. -/
def RdS (w : World) (h0 : Nat) (v : Value) (zs : List Int) : Prop := RdI w v zs ∧ ∀ p n c, v = .slice (some p) n c → ¬ BX h0 p.block
theorem RdS.rd {w : World} {h0 : Nat} {v : Value} {zs : List Int} (h : RdS w h0 v zs) : RdI w v zs := h.1
theorem RdS.below {w w' : World} {h0 : Nat} {v : Value} {zs : List Int} (h : RdS w h0 v zs) (hb : Below w.heap.size w w') : RdS w' h0 v zs := ⟨h.1.below hb, h.2⟩
theorem RdS.set {w : World} {h0 : Nat} {v : Value} {zs : List Int} (h : RdS w h0 v zs) {p : Addr} (hp : BX h0 p.block) (u : Value) : RdS (w.setCell p u) h0 v zs :=
  ⟨h.1.blk fun q n c hv => Below.heap_setCell _ _ _ _ (fun e => h.2 q n c hv (e ▸ hp)), h.2⟩
theorem RdS.old {w W : World} {h0 : Nat} {v : Value} {zs : List Int} (h : RdI w v zs) (hn : zs ≠ []) (hb : Below w.heap.size w W) (hs : w.heap.size ≤ h0) : RdS W h0 v zs := by
  obtain ⟨b, off, cap, rfl, hlt, hc⟩ := h.open hn
  refine ⟨h.below hb, fun p n c hv hB => ?_⟩
  simp only [Value.slice.injEq, Option.some.injEq] at hv
  rw [← hv.1] at hB
  have h1 := hB.1
  simp only at h1
  omega
theorem RdS.own {w : World} {h0 B : Nat} {v : Value} {zs : List Int} (h : OwI w B v zs) (hn : zs ≠ []) (hs : h0 + 12 < B) : RdS w h0 v zs := by
  obtain ⟨g, cap, rfl, hB, hlt, _⟩ := h.open hn
  refine ⟨h.rd, fun p n c hv hX => ?_⟩
  simp only [Value.slice.injEq, Option.some.injEq] at hv
  rw [← hv.1] at hX
  have h1 := hX.2.1
  simp only at h1
  omega
def Box (wr : World) (h0 a : Nat) (zs : List Int) : Prop := ∃ p q, wr.cell? ⟨a, 0, none⟩ = some (.slice p zs.length q) ∧ wr.frozen? ⟨a, 0, none⟩ = false ∧ RdS wr h0 (.slice p zs.length q) zs
theorem Box.lt {w : World} {h0 a : Nat} {zs : List Int} (h : Box w h0 a zs) : a < w.heap.size := by
  obtain ⟨p, q, h1, _⟩ := h
  exact World.block_lt_of_cell? _ _ h1
theorem Box.below {w w' : World} {h0 a : Nat} {zs : List Int} (h : Box w h0 a zs) (hb : Below w.heap.size w w') : Box w' h0 a zs := by
  have hl := h.lt
  obtain ⟨p, q, h1, h2, h3⟩ := h
  exact ⟨p, q, (hb.cell (p := ⟨a, 0, none⟩) hl).trans h1, (hb.frozen (p := ⟨a, 0, none⟩) hl).trans h2, h3.below hb⟩
theorem Box.set {w : World} {h0 a b : Nat} {zs : List Int} (h : Box w h0 a zs) (hn : a ≠ b) (hb : BX h0 b) (u : Value) : Box (w.setCell ⟨b, 0, none⟩ u) h0 a zs := by
  obtain ⟨p, q, h1, h2, h3⟩ := h
  exact ⟨p, q, by rw [cellZ hn]; exact h1, by rw [World.frozen?_setCell]; exact h2, h3.set hb u⟩
theorem Box.put {w : World} {h0 a n c : Nat} {xs zs : List Int} {ao : Option Addr} (h : Box w h0 a xs) (ha : BX h0 a) (hn : n = zs.length) (hv : RdS w h0 (.slice ao n c) zs) : Box (w.setCell ⟨a, 0, none⟩ (.slice ao n c)) h0 a zs := by
  obtain ⟨p, q, h1, h2, h3⟩ := h
  subst hn
  exact ⟨ao, c, World.cell?_setCell_same _ _ _ h1, by rw [World.frozen?_setCell]; exact h2, hv.set ha _⟩
/-- The boxes at the head of the loop. -/
structure BI (w : World) (m : Int) (h0 a4 a5 a6 a7 a8 a9 a10 a11 : Nat) (A B s t u v : List Int) (wr : World) : Prop where
  b3 : Box wr h0 h0 A
  b4 : Box wr h0 a4 B
  b8 : Box wr h0 a8 s
  b9 : Box wr h0 a9 t
  b10 : Box wr h0 a10 u
  b11 : Box wr h0 a11 v
  m5 : wr.cell? ⟨a5, 0, none⟩ = some (.int .i64 m)
  c6 : wr.cell? ⟨a6, 0, none⟩ = some (.slice none 0 0)
  f6 : wr.frozen? ⟨a6, 0, none⟩ = false
  c7 : wr.cell? ⟨a7, 0, none⟩ = some (.slice none 0 0)
  f7 : wr.frozen? ⟨a7, 0, none⟩ = false
  bel : Below w.heap.size w wr
theorem BI.below {w : World} {m : Int} {h0 a4 a5 a6 a7 a8 a9 a10 a11 : Nat} {A B s t u v : List Int} {wr w' : World} (h : BI w m h0 a4 a5 a6 a7 a8 a9 a10 a11 A B s t u v wr) (hb : Below wr.heap.size wr w') : BI w m h0 a4 a5 a6 a7 a8 a9 a10 a11 A B s t u v w' := by
  have l6 := World.block_lt_of_cell? _ _ h.c6
  have l7 := World.block_lt_of_cell? _ _ h.c7
  exact ⟨h.b3.below hb, h.b4.below hb, h.b8.below hb, h.b9.below hb, h.b10.below hb, h.b11.below hb, (hb.cell (World.block_lt_of_cell? _ _ h.m5)).trans h.m5, (hb.cell l6).trans h.c6, (hb.frozen l6).trans h.f6, (hb.cell l7).trans h.c7, (hb.frozen l7).trans h.f7, h.bel.trans (hb.mono h.bel.size)⟩
/-- Where the boxes lie. -/
def Ads (w : World) (h0 a4 a5 a6 a7 a8 a9 a10 a11 : Nat) : Prop := a4 = h0 + 1 ∧ a5 = h0 + 2 ∧ a6 = h0 + 3 ∧ a7 = h0 + 4 ∧ a8 = h0 + 7 ∧ a9 = h0 + 8 ∧ a10 = h0 + 11 ∧ a11 = h0 + 12 ∧ w.heap.size = h0
theorem BI.step6 {w : World} {m : Int} {h0 a4 a5 a6 a7 a8 a9 a10 a11 : Nat} {A B s t u v C D : List Int} {wr : World} {p p' : Option Addr} {n n' q q' : Nat} (hA : Ads w h0 a4 a5 a6 a7 a8 a9 a10 a11) (h : BI w m h0 a4 a5 a6 a7 a8 a9 a10 a11 A B s t u v wr) (hn : n = C.length) (hn' : n' = D.length) (hC : RdS wr h0 (.slice p n q) C) (hD : RdS wr h0 (.slice p' n' q') D) : BI w m h0 a4 a5 a6 a7 a8 a9 a10 a11 C D s t u v ((wr.setCell ⟨h0, 0, none⟩ (.slice p n q)).setCell ⟨a4, 0, none⟩ (.slice p' n' q')) := by
  obtain ⟨rfl, rfl, rfl, rfl, rfl, rfl, rfl, rfl, hw⟩ := hA
  exact ⟨(h.b3.put (by unfold BX; omega) hn hC).set (by omega) (by unfold BX; omega) _, (h.b4.set (by omega) (by unfold BX; omega) _).put (by unfold BX; omega) hn' (hD.set (by unfold BX; simp only; omega) _), (h.b8.set (by omega) (by unfold BX; omega) _).set (by omega) (by unfold BX; omega) _, (h.b9.set (by omega) (by unfold BX; omega) _).set (by omega) (by unfold BX; omega) _, (h.b10.set (by omega) (by unfold BX; omega) _).set (by omega) (by unfold BX; omega) _, (h.b11.set (by omega) (by unfold BX; omega) _).set (by omega) (by unfold BX; omega) _, by rw [cellZ (by omega), cellZ (by omega)]; exact h.m5, by rw [cellZ (by omega), cellZ (by omega)]; exact h.c6, by rw [World.frozen?_setCell, World.frozen?_setCell]; exact h.f6, by rw [cellZ (by omega), cellZ (by omega)]; exact h.c7, by rw [World.frozen?_setCell, World.frozen?_setCell]; exact h.f7, Below.setCell (Below.setCell h.bel (by simp only; omega) _) (by simp only; omega) _⟩
theorem BI.step7 {w : World} {m : Int} {h0 a4 a5 a6 a7 a8 a9 a10 a11 : Nat} {A B s t u v C D : List Int} {wr : World} {p p' : Option Addr} {n n' q q' : Nat} (hA : Ads w h0 a4 a5 a6 a7 a8 a9 a10 a11) (h : BI w m h0 a4 a5 a6 a7 a8 a9 a10 a11 A B s t u v wr) (hn : n = C.length) (hn' : n' = D.length) (hC : RdS wr h0 (.slice p n q) C) (hD : RdS wr h0 (.slice p' n' q') D) : BI w m h0 a4 a5 a6 a7 a8 a9 a10 a11 A B C t D v ((wr.setCell ⟨a8, 0, none⟩ (.slice p n q)).setCell ⟨a10, 0, none⟩ (.slice p' n' q')) := by
  obtain ⟨rfl, rfl, rfl, rfl, rfl, rfl, rfl, rfl, hw⟩ := hA
  exact ⟨(h.b3.set (by omega) (by unfold BX; omega) _).set (by omega) (by unfold BX; omega) _, (h.b4.set (by omega) (by unfold BX; omega) _).set (by omega) (by unfold BX; omega) _, (h.b8.put (by unfold BX; omega) hn hC).set (by omega) (by unfold BX; omega) _, (h.b9.set (by omega) (by unfold BX; omega) _).set (by omega) (by unfold BX; omega) _, (h.b10.set (by omega) (by unfold BX; omega) _).put (by unfold BX; omega) hn' (hD.set (by unfold BX; simp only; omega) _), (h.b11.set (by omega) (by unfold BX; omega) _).set (by omega) (by unfold BX; omega) _, by rw [cellZ (by omega), cellZ (by omega)]; exact h.m5, by rw [cellZ (by omega), cellZ (by omega)]; exact h.c6, by rw [World.frozen?_setCell, World.frozen?_setCell]; exact h.f6, by rw [cellZ (by omega), cellZ (by omega)]; exact h.c7, by rw [World.frozen?_setCell, World.frozen?_setCell]; exact h.f7, Below.setCell (Below.setCell h.bel (by simp only; omega) _) (by simp only; omega) _⟩
theorem BI.step8 {w : World} {m : Int} {h0 a4 a5 a6 a7 a8 a9 a10 a11 : Nat} {A B s t u v C D : List Int} {wr : World} {p p' : Option Addr} {n n' q q' : Nat} (hA : Ads w h0 a4 a5 a6 a7 a8 a9 a10 a11) (h : BI w m h0 a4 a5 a6 a7 a8 a9 a10 a11 A B s t u v wr) (hn : n = C.length) (hn' : n' = D.length) (hC : RdS wr h0 (.slice p n q) C) (hD : RdS wr h0 (.slice p' n' q') D) : BI w m h0 a4 a5 a6 a7 a8 a9 a10 a11 A B s C u D ((wr.setCell ⟨a9, 0, none⟩ (.slice p n q)).setCell ⟨a11, 0, none⟩ (.slice p' n' q')) := by
  obtain ⟨rfl, rfl, rfl, rfl, rfl, rfl, rfl, rfl, hw⟩ := hA
  exact ⟨(h.b3.set (by omega) (by unfold BX; omega) _).set (by omega) (by unfold BX; omega) _, (h.b4.set (by omega) (by unfold BX; omega) _).set (by omega) (by unfold BX; omega) _, (h.b8.set (by omega) (by unfold BX; omega) _).set (by omega) (by unfold BX; omega) _, (h.b9.put (by unfold BX; omega) hn hC).set (by omega) (by unfold BX; omega) _, (h.b10.set (by omega) (by unfold BX; omega) _).set (by omega) (by unfold BX; omega) _, (h.b11.set (by omega) (by unfold BX; omega) _).put (by unfold BX; omega) hn' (hD.set (by unfold BX; simp only; omega) _), by rw [cellZ (by omega), cellZ (by omega)]; exact h.m5, by rw [cellZ (by omega), cellZ (by omega)]; exact h.c6, by rw [World.frozen?_setCell, World.frozen?_setCell]; exact h.f6, by rw [cellZ (by omega), cellZ (by omega)]; exact h.c7, by rw [World.frozen?_setCell, World.frozen?_setCell]; exact h.f7, Below.setCell (Below.setCell h.bel (by simp only; omega) _) (by simp only; omega) _⟩

set_option maxRecDepth 100000 in
set_option maxHeartbeats 8000000 in
theorem bezout_impl (va vb : Value) (p g h : List Int) (m : Int) (w : World) (ha : RdI w va g) (hb : RdI w vb h) (c : LiftC m p g h) : Calls Try.prog 87 #[.agg #[va], .agg #[vb], .int .i64 m] w (RW2 (bzS m g h, bzT m g h) w) := by
  have hm2 := c.m2
  have Hm := Lib.hid c.hm
  have HI := Lib.hid c.bi
  have HZ := Lib.hid c.bz
  have Ha := Lib.hid ha
  have Hb := Lib.hid hb
  have Hgn := Lib.hid c.og.ne
  have Hhn := Lib.hid c.oh.ne
  obtain ⟨aoa, ca, rfl⟩ := ha.shape
  obtain ⟨aob, cb, rfl⟩ := hb.shape
  clear ha hb c
  go_enter Try.func87, Try.ntmps87
  go_wp2_with fail
  generalize hW : World.alloc _ _ = W0
  have Hw := Lib.hid hW
  clear hW
  have x3 : W0.cell? ⟨w.heap.size, 0, none⟩ = some (.slice aoa g.length ca) := by rw [← Hw.out]; go_simp
  have x4 : W0.cell? ⟨w.heap.size + 1, 0, none⟩ = some (.slice aob h.length cb) := by rw [← Hw.out]; go_simp
  have x5 : W0.cell? ⟨w.heap.size + 1 + 1, 0, none⟩ = some (.int .i64 m) := by rw [← Hw.out]; go_simp
  have x6 : W0.cell? ⟨w.heap.size + 1 + 1 + 1, 0, none⟩ = some (.slice none 0 0) := by rw [← Hw.out]; go_simp
  have x7 : W0.cell? ⟨w.heap.size + 1 + 1 + 1 + 1, 0, none⟩ = some (.slice none 0 0) := by rw [← Hw.out]; go_simp
  have x8 : W0.cell? ⟨w.heap.size + 1 + 1 + 1 + 1 + 1 + 1 + 1, 0, none⟩ = some (.slice (some ⟨w.heap.size + 1 + 1 + 1 + 1 + 1, 0, none⟩) 1 1) := by rw [← Hw.out]; go_simp
  have x9 : W0.cell? ⟨w.heap.size + 1 + 1 + 1 + 1 + 1 + 1 + 1 + 1, 0, none⟩ = some (.slice (some ⟨w.heap.size + 1 + 1 + 1 + 1 + 1 + 1, 0, none⟩) 1 1) := by rw [← Hw.out]; go_simp
  have x10 : W0.cell? ⟨w.heap.size + 1 + 1 + 1 + 1 + 1 + 1 + 1 + 1 + 1 + 1 + 1, 0, none⟩ = some (.slice (some ⟨w.heap.size + 1 + 1 + 1 + 1 + 1 + 1 + 1 + 1 + 1, 0, none⟩) 1 1) := by rw [← Hw.out]; go_simp
  have x11 : W0.cell? ⟨w.heap.size + 1 + 1 + 1 + 1 + 1 + 1 + 1 + 1 + 1 + 1 + 1 + 1, 0, none⟩ = some (.slice (some ⟨w.heap.size + 1 + 1 + 1 + 1 + 1 + 1 + 1 + 1 + 1 + 1, 0, none⟩) 1 1) := by rw [← Hw.out]; go_simp
  have d8 : W0.cell? ⟨w.heap.size + 1 + 1 + 1 + 1 + 1, 0, none⟩ = some (.int .i64 1) := by rw [← Hw.out]; go_simp
  have d9 : W0.cell? ⟨w.heap.size + 1 + 1 + 1 + 1 + 1 + 1, 0, none⟩ = some (.int .i64 0) := by rw [← Hw.out]; go_simp
  have d10 : W0.cell? ⟨w.heap.size + 1 + 1 + 1 + 1 + 1 + 1 + 1 + 1 + 1, 0, none⟩ = some (.int .i64 0) := by rw [← Hw.out]; go_simp
  have d11 : W0.cell? ⟨w.heap.size + 1 + 1 + 1 + 1 + 1 + 1 + 1 + 1 + 1 + 1, 0, none⟩ = some (.int .i64 1) := by rw [← Hw.out]; go_simp
  have y3 : W0.frozen? ⟨w.heap.size, 0, none⟩ = false := by rw [← Hw.out]; go_simp
  have y4 : W0.frozen? ⟨w.heap.size + 1, 0, none⟩ = false := by rw [← Hw.out]; go_simp
  have y6 : W0.frozen? ⟨w.heap.size + 1 + 1 + 1, 0, none⟩ = false := by rw [← Hw.out]; go_simp
  have y7 : W0.frozen? ⟨w.heap.size + 1 + 1 + 1 + 1, 0, none⟩ = false := by rw [← Hw.out]; go_simp
  have y8 : W0.frozen? ⟨w.heap.size + 1 + 1 + 1 + 1 + 1 + 1 + 1, 0, none⟩ = false := by rw [← Hw.out]; go_simp
  have y9 : W0.frozen? ⟨w.heap.size + 1 + 1 + 1 + 1 + 1 + 1 + 1 + 1, 0, none⟩ = false := by rw [← Hw.out]; go_simp
  have y10 : W0.frozen? ⟨w.heap.size + 1 + 1 + 1 + 1 + 1 + 1 + 1 + 1 + 1 + 1 + 1, 0, none⟩ = false := by rw [← Hw.out]; go_simp
  have y11 : W0.frozen? ⟨w.heap.size + 1 + 1 + 1 + 1 + 1 + 1 + 1 + 1 + 1 + 1 + 1 + 1, 0, none⟩ = false := by rw [← Hw.out]; go_simp
  have B0 : Below w.heap.size w W0 := by rw [← Hw.out]; (repeat' (first | (with_reducible exact Below.refl _ _) | (with_reducible assumption) | (with_reducible refine Below.alloc ?_ ?_ _) | (with_reducible refine Below.setCell ?_ ?_ _) | (with_reducible refine Below.drew ?_) | (with_reducible refine Below.via (by assumption) ?_ ?_) | go_size))
  have LB : ∀ (k : Nat) (z : Int), ¬ BX w.heap.size k → W0.cell? ⟨k, 0, none⟩ = some (.int .i64 z) → RdS W0 w.heap.size (.slice (some ⟨k, 0, none⟩) 1 1) [z] := fun k z hk hc => ⟨RdI.one hc, fun q n c hv => by
    simp only [Value.slice.injEq, Option.some.injEq] at hv
    rw [← hv.1]; exact hk⟩
  have HB := Lib.hid (show BI w m w.heap.size (w.heap.size + 1) (w.heap.size + 1 + 1) (w.heap.size + 1 + 1 + 1) (w.heap.size + 1 + 1 + 1 + 1) (w.heap.size + 1 + 1 + 1 + 1 + 1 + 1 + 1) (w.heap.size + 1 + 1 + 1 + 1 + 1 + 1 + 1 + 1) (w.heap.size + 1 + 1 + 1 + 1 + 1 + 1 + 1 + 1 + 1 + 1 + 1) (w.heap.size + 1 + 1 + 1 + 1 + 1 + 1 + 1 + 1 + 1 + 1 + 1 + 1) g h [1] [0] [0] [1] W0 from
    ⟨⟨_, _, x3, y3, RdS.old Ha.out Hgn.out B0 (Nat.le_refl _)⟩, ⟨_, _, x4, y4, RdS.old Hb.out Hhn.out B0 (Nat.le_refl _)⟩, ⟨_, _, x8, y8, LB _ _ (by unfold BX; omega) d8⟩, ⟨_, _, x9, y9, LB _ _ (by unfold BX; omega) d9⟩, ⟨_, _, x10, y10, LB _ _ (by unfold BX; omega) d10⟩, ⟨_, _, x11, y11, LB _ _ (by unfold BX; omega) d11⟩, x5, x6, y6, x7, y7, B0⟩)
  have zW0 := World.block_lt_of_cell? _ _ x11
  simp only at zW0
  clear x3 x4 x5 x6 x7 x8 x9 x10 x11 d8 d9 d10 d11 y3 y4 y6 y7 y8 y9 y10 y11 B0 LB Hw Ha Hb
  obtain ⟨h0, hh0⟩ : ∃ h0, h0 = w.heap.size := ⟨_, rfl⟩
  have HA := Lib.hid (show (w.heap.size + 1) = h0 + 1 ∧ (w.heap.size + 1 + 1) = h0 + 2 ∧ (w.heap.size + 1 + 1 + 1) = h0 + 3 ∧ (w.heap.size + 1 + 1 + 1 + 1) = h0 + 4 ∧ (w.heap.size + 1 + 1 + 1 + 1 + 1 + 1 + 1) = h0 + 7 ∧ (w.heap.size + 1 + 1 + 1 + 1 + 1 + 1 + 1 + 1) = h0 + 8 ∧ (w.heap.size + 1 + 1 + 1 + 1 + 1 + 1 + 1 + 1 + 1 + 1 + 1) = h0 + 11 ∧ (w.heap.size + 1 + 1 + 1 + 1 + 1 + 1 + 1 + 1 + 1 + 1 + 1 + 1) = h0 + 12 ∧ w.heap.size = h0 by omega)
  clear hh0
  generalize w.heap.size + 1 + 1 + 1 + 1 + 1 + 1 + 1 + 1 + 1 + 1 + 1 + 1 = a11 at *
  generalize w.heap.size + 1 + 1 + 1 + 1 + 1 + 1 + 1 + 1 + 1 + 1 + 1 = a10 at *
  generalize w.heap.size + 1 + 1 + 1 + 1 + 1 + 1 + 1 + 1 = a9 at *
  generalize w.heap.size + 1 + 1 + 1 + 1 + 1 + 1 + 1 = a8 at *
  generalize w.heap.size + 1 + 1 + 1 + 1 = a7 at *
  generalize w.heap.size + 1 + 1 + 1 = a6 at *
  generalize w.heap.size + 1 + 1 = a5 at *
  generalize w.heap.size + 1 = a4 at *
  go_loopg [13] (meas h) (fun k _ wr => ∃ A B s t u v, BI w m w.heap.size a4 a5 a6 a7 a8 a9 a10 a11 A B s t u v wr ∧ BezI m 10 A B s u t v ∧ bezZ m A B s u t v = bzF m g h ∧ meas B = k)
  case atStart => exact ⟨g, h, [1], [0], [0], [1], HB.out, HI.out, rfl, rfl⟩
  case round =>
    clear HB zW0
    obtain ⟨A, B, s, t, u, v, hb, hi, he, hme⟩ := hrel
    have HB := Lib.hid hb
    have Hi := Lib.hid hi
    have He := Lib.hid he
    have Hme := Lib.hid hme
    have hlA := hi.oa.len
    have hlB := hi.ob.len
    have hlA1 := hi.oa.trd.1
    have zr0 := hb.b11.lt
    have zr1 := hb.bel.size
    clear hb hi he hme
    cases hz : zeroB B
    · have Hz := Lib.hid hz
      have HN := Lib.hid (Hi.out.next Hm.out hz (by omega))
      have HQ := Lib.hid (Hi.out.qlen Hm.out hz (by omega))
      have HD := Lib.hid (divF_ovr Hm.out Hi.out.oa Hi.out.ob hz)
      clear hz
      obtain ⟨p4, q4, x4, y4, r4⟩ := HB.out.b4
      go_wp2_with fail
      (go_at_call 93; ((with_reducible refine (noWhole_impl _ B _ r4.rd (by omega)).mono ?_); rintro e w1 ⟨rfl, hb1⟩))
      rw [Hz.out]
      have HB1 := Lib.hid (HB.out.below hb1)
      have zr2 := hb1.size
      clear HB hb1 x4 y4 r4
      obtain ⟨p3, q3, x3, y3, r3⟩ := HB1.out.b3
      obtain ⟨p4, q4, x4, y4, r4⟩ := HB1.out.b4
      have x5 := HB1.out.m5
      have R3 := Lib.hid r3.rd
      have R4 := Lib.hid r4.rd
      clear r3 r4
      go_wp2_with fail
      (go_at_call 88; ((with_reducible refine (divide_impl2 _ _ A B m _ R3.out R4.out Hm.out Hi.out.oa Hi.out.ob).mono ?_); rintro e w2 ⟨v1, v2, rfl, o1, o2, hb2⟩))
      have HB2 := Lib.hid (HB1.out.below hb2)
      have zr3 := hb2.size
      have Oq := Lib.hid o1
      have Or := Lib.hid o2
      obtain ⟨pq, qq, rfl⟩ := o1.rd.shape
      obtain ⟨pr, qr, rfl⟩ := o2.rd.shape
      clear HB1 hb2 o1 o2 x3 x4 x5 y3 y4 R3 R4
      go_wp2_with fail
      generalize hw3 : World.alloc _ _ = w3
      have Hw3 := Lib.hid hw3
      clear hw3
      have x13 : w3.cell? ⟨w2.heap.size, 0, none⟩ = some (.slice pq (divF A B m).1.length qq) := by rw [← Hw3.out]; go_simp
      have x14 : w3.cell? ⟨w2.heap.size + 1, 0, none⟩ = some (.slice pr (divF A B m).2.length qr) := by rw [← Hw3.out]; go_simp
      have B23 : Below w2.heap.size w2 w3 := by rw [← Hw3.out]; exact ((Below.refl _ _).alloc (Nat.le_refl _) _).alloc (by simp) _
      have HB3 := Lib.hid (HB2.out.below B23)
      have RQ := Lib.hid (Oq.out.rd.below B23)
      have RR := Lib.hid ((RdS.own (h0 := w.heap.size) Or.out HD.out.2.1.ne (by have := HA.out; omega)).below B23)
      have zr4 := B23.size
      have Oq0 := Lib.hid Oq.out
      have B230 := Lib.hid B23
      clear HB2 B23 Oq Or Hw3
      obtain ⟨p3, q3, x3, y3, r3⟩ := HB3.out.b3
      obtain ⟨p4, q4, x4, y4, r4⟩ := HB3.out.b4
      have R4 := Lib.hid r4
      clear r3 r4
      have n34 : ¬ (w.heap.size = a4) := by have := HA.out; omega
      have n43 : ¬ (a4 = w.heap.size) := by have := HA.out; omega
      have n14 : ¬ (w2.heap.size + 1 = w.heap.size) := by have := HA.out; omega
      have n15 : ¬ (w2.heap.size + 1 = a4) := by have := HA.out; omega
      go_region
      go_wp2_with fail
      generalize hw6 : World.drew _ = w6
      have HB6 := Lib.hid (show BI w m w.heap.size a4 a5 a6 a7 a8 a9 a10 a11 B (divF A B m).2 s t u v w6 by
        rw [← hw6]
        have h9 := HA.out
        have hw9 : w.heap.size = h0 := by omega
        rw [← hw9] at h9
        exact (BI.step6 h9 HB3.out rfl rfl R4.out RR.out).below ((Below.refl _ _).drew))
      have B36 := Lib.hid (show Below w.heap.size w3 w6 by rw [← hw6]; exact Below.drew (Below.setCell (Below.setCell (Below.refl _ _) (by simp only; omega) _) (by simp only; have := HA.out; omega) _))
      have x136 := (show w6.cell? ⟨w2.heap.size, 0, none⟩ = some (.slice pq (divF A B m).1.length qq) by
        rw [← hw6, World.cell?_drew, cellZ (by have := HA.out; omega), cellZ (by have := HA.out; omega)]; exact x13)
      have RQ6 := Lib.hid (show RdI w6 (.slice pq (divF A B m).1.length qq) (divF A B m).1 by
        rw [← hw6]
        exact ((((RdS.own (h0 := w.heap.size) Oq0.out HD.out.1.ne (by have := HA.out; omega)).below B230.out).set (p := ⟨w.heap.size, 0, none⟩) (by unfold BX; simp only; omega) _).set (p := ⟨a4, 0, none⟩) (by unfold BX; have := HA.out; simp only; omega) _).rd.below ((Below.refl _ _).drew))
      have HQS := Lib.hid (show RdS w6 w.heap.size (.slice pq (divF A B m).1.length qq) (divF A B m).1 by
        rw [← hw6]
        exact (((RdS.own (h0 := w.heap.size) Oq0.out HD.out.1.ne (by have := HA.out; omega)).below B230.out).set (p := ⟨w.heap.size, 0, none⟩) (by unfold BX; simp only; omega) _).set (p := ⟨a4, 0, none⟩) (by unfold BX; have := HA.out; simp only; omega) _ |>.below ((Below.refl _ _).drew))
      have z6 := B36.out.size
      clear hw6 HB3 R4 RR RQ x3 x4 y3 y4 x13 x14 B36 n34 n43 n14 n15 Oq0 B230
      have hAd := Lib.hid (show Ads w w.heap.size a4 a5 a6 a7 a8 a9 a10 a11 by have h9 := HA.out; have hw9 : w.heap.size = h0 := (by omega); rw [← hw9] at h9; exact h9)
      have zq2 : w.heap.size + 12 < w2.heap.size := by have := HA.out; omega
      have zq6 := World.block_lt_of_cell? _ _ x136
      simp only at zq6
      have n810 : ¬ (a8 = a10) := by have := HA.out; omega
      have n108 : ¬ (a10 = a8) := by have := HA.out; omega
      have n911 : ¬ (a9 = a11) := by have := HA.out; omega
      have n119 : ¬ (a11 = a9) := by have := HA.out; omega
      go_cut [38] (fun _ wx => BI w m w.heap.size a4 a5 a6 a7 a8 a9 a10 a11 B (divF A B m).2 u t (subF m s (mulF m (divF A B m).1 u)) v wx ∧ wx.cell? ⟨w2.heap.size, 0, none⟩ = some (.slice pq (divF A B m).1.length qq) ∧ RdI wx (.slice pq (divF A B m).1.length qq) (divF A B m).1 ∧ w6.heap.size ≤ wx.heap.size)
      case first =>
        obtain ⟨pX, qX, xX, yX, rX⟩ := HB6.out.b8
        obtain ⟨pY, qY, xY, yY, rY⟩ := HB6.out.b10
        have m5 := HB6.out.m5
        have RX := Lib.hid rX
        have RY := Lib.hid rY
        have lX := World.block_lt_of_cell? _ _ xX
        have lY := World.block_lt_of_cell? _ _ xY
        have l13 := World.block_lt_of_cell? _ _ x136
        simp only at lX lY l13
        clear rX rY
        have m5d : w6.drew.cell? ⟨a5, 0, none⟩ = some (.int .i64 m) := m5
        go_region_with (first
          | (go_at_call 132; go_loud ((with_reducible refine (minus_impl _ _ _ s (divF A B m).1 u m a5 w6.drew (RX.out.rd.below ((Below.refl _ _).drew)) (RQ6.out.below ((Below.refl _ _).drew)) (RY.out.rd.below ((Below.refl _ _).drew)) m5d Hm.out Hi.out.os HD.out.1 Hi.out.ou (by have := HQ.out.1; omega)).mono ?_); rintro e wc ⟨vc, rfl, oc, dc⟩; obtain ⟨pc, qc, rfl⟩ := oc.rd.shape; (have Bc := (show Below w6.heap.size w6 wc from ((Below.refl _ _).drew).trans dc)); (have zc := Bc.size); (have exX := (Bc.cell (p := ⟨a8, 0, none⟩) lX).trans xX); (have exY := (Bc.cell (p := ⟨a10, 0, none⟩) lY).trans xY); (have eyX := (Bc.frozen (p := ⟨a8, 0, none⟩) lX).trans yX); (have eyY := (Bc.frozen (p := ⟨a10, 0, none⟩) lY).trans yY); (have ex13 := (Bc.cell (p := ⟨w2.heap.size, 0, none⟩) l13).trans x136); (have elX := World.block_lt_of_cell? _ _ exX); (have elY := World.block_lt_of_cell? _ _ exY); simp only at elX elY)))
        all_goals
          go_wp2_with fail
          go_meet
          refine ⟨BI.step7 hAd.out (HB6.out.below Bc) rfl rfl (RY.out.below Bc) (RdS.own (h0 := w.heap.size) oc HN.out.ou.ne (by simp only [World.size_drew]; have := HA.out; omega)), ?_, ?_, by simp only [World.size_setCell]; exact zc⟩
          · rw [cellZ (by have := HA.out; omega), cellZ (by have := HA.out; omega)]; exact ex13
          · exact ((RdS.set (p := ⟨a10, 0, none⟩) (RdS.set (p := ⟨a8, 0, none⟩) (HQS.out.below Bc) (by unfold BX; have := HA.out; simp only; omega) _) (by unfold BX; have := HA.out; simp only; omega) _)).rd
      case rest =>
        obtain ⟨hb7, x137, rq7, z67⟩ := hcut
        have HB7 := Lib.hid hb7
        have RQ7 := Lib.hid rq7
        clear HB6 hb7 rq7 x136 RQ6 HQS
        rename World => w7
        obtain ⟨pX, qX, xX, yX, rX⟩ := HB7.out.b9
        obtain ⟨pY, qY, xY, yY, rY⟩ := HB7.out.b11
        have m5 := HB7.out.m5
        have RX := Lib.hid rX
        have RY := Lib.hid rY
        have lX := World.block_lt_of_cell? _ _ xX
        have lY := World.block_lt_of_cell? _ _ xY
        have l13 := World.block_lt_of_cell? _ _ x137
        simp only at lX lY l13
        clear rX rY
        have m5d : w7.drew.cell? ⟨a5, 0, none⟩ = some (.int .i64 m) := m5
        go_wp2_with fail
        go_region_with (first
          | (go_at_call 132; go_loud ((with_reducible refine (minus_impl _ _ _ t (divF A B m).1 v m a5 w7.drew (RX.out.rd.below ((Below.refl _ _).drew)) (RQ7.out.below ((Below.refl _ _).drew)) (RY.out.rd.below ((Below.refl _ _).drew)) m5d Hm.out Hi.out.ot HD.out.1 Hi.out.ov (by have := HQ.out.1; omega)).mono ?_); rintro e wc ⟨vc, rfl, oc, dc⟩; obtain ⟨pc, qc, rfl⟩ := oc.rd.shape; (have Bc := (show Below w7.heap.size w7 wc from ((Below.refl _ _).drew).trans dc)); (have zc := Bc.size); (have exX := (Bc.cell (p := ⟨a9, 0, none⟩) lX).trans xX); (have exY := (Bc.cell (p := ⟨a11, 0, none⟩) lY).trans xY); (have eyX := (Bc.frozen (p := ⟨a9, 0, none⟩) lX).trans yX); (have eyY := (Bc.frozen (p := ⟨a11, 0, none⟩) lY).trans yY); (have ex13 := (Bc.cell (p := ⟨w2.heap.size, 0, none⟩) l13).trans x137); (have elX := World.block_lt_of_cell? _ _ exX); (have elY := World.block_lt_of_cell? _ _ exY); simp only at elX elY)))
        all_goals
          go_wp2_with fail
          go_roundg (meas (divF A B m).2)
          case measure => rw [← Hme.out]; exact divF_rest_length A B m Hi.out.ob.ne Hz.out
          case rel => exact ⟨B, (divF A B m).2, u, v, (subF m s (mulF m (divF A B m).1 u)), (subF m t (mulF m (divF A B m).1 v)), BI.step8 hAd.out (HB7.out.below Bc) rfl rfl (RY.out.below Bc) (RdS.own (h0 := w.heap.size) oc HN.out.ov.ne (by simp only [World.size_drew]; have := HA.out; omega)), HN.out, by rw [← bezZ_step Hi.out.ob.ne Hz.out]; exact He.out, rfl⟩
    · have hE := He.out
      rw [bezZ_stop hz] at hE
      have hZ := HZ.out
      have eI : bzI m g h = invZ (lastZ A) m := by unfold bzI; rw [← hE]
      have ES := Lib.hid (show bzS m g h = mulF m s [invZ (lastZ A) m] by unfold bzS; rw [eI, ← hE])
      have ET := Lib.hid (show bzT m g h = mulF m t [invZ (lastZ A) m] by unfold bzT; rw [eI, ← hE])
      rw [← hE, eI] at hZ
      simp only at hZ
      obtain ⟨_, _, _, _, os, ot, ls, lt, hl1, _, hI, _⟩ := hZ
      have Os := Lib.hid os
      have Ot := Lib.hid ot
      have hov := Hi.out.oa.ov (A.length - 1)
      have hov2 : 0 ≤ lastZ A ∧ lastZ A < m := hov
      have Hoi := Lib.hid (single_ovr (m := m) hI (by omega))
      have Han := Lib.hid Hi.out.oa.ne
      have Hl1 := Lib.hid hl1
      clear hl1 hE os ot hov eI HZ
      obtain ⟨p4, q4, x4, y4, r4⟩ := HB.out.b4
      go_wp2_with fail
      (go_at_call 93; ((with_reducible refine (noWhole_impl _ B _ r4.rd (by omega)).mono ?_); rintro e w1 ⟨rfl, hb1⟩))
      rw [hz]
      have HB1 := Lib.hid (HB.out.below hb1)
      have zr2 := hb1.size
      clear HB hb1 x4 y4 r4 hz He Hi
      obtain ⟨p3, q3, x3, y3, r3⟩ := HB1.out.b3
      have x5 := HB1.out.m5
      have R3 := Lib.hid r3.rd
      have l3 := World.block_lt_of_cell? _ _ x3
      have l5 := World.block_lt_of_cell? _ _ x5
      simp only at l3 l5
      clear r3 y3
      generalize hlz : lastZ A = lz at *
      have Hlz := Lib.hid hlz
      clear hlz
      go_upto_region 9 with fail
      go_cut [15] (fun v15 wx => ∃ g15 gd, v15 = .pointer (some ⟨g15, 0, none⟩) ∧ wx.cell? ⟨g15, 0, none⟩ = some (.slice (some ⟨gd, 0, none⟩) 1 1) ∧ wx.cell? ⟨gd, 0, none⟩ = some (.int .i64 (invZ lz m)) ∧ w1.heap.size ≤ g15 ∧ Below w1.heap.size w1 wx)
      case first =>
        go_region_held3 (fun w' => w'.cell? ⟨w.heap.size, 0, none⟩ = some (.slice p3 A.length q3) ∧ w'.cell? ⟨a5, 0, none⟩ = some (.int .i64 m))
          (((try dsimp only); (repeat' (refine And.intro ?_ ?_)); all_goals (first | assumption | (refine (Below.cell (B := w1.heap.size) (w := w1) ?_ ?_).trans ?_ <;> (first | assumption | omega | (simp only; omega) | (skip; (repeat' (first | (with_reducible exact Below.refl _ _) | (with_reducible assumption) | (with_reducible refine Below.alloc ?_ ?_ _) | (with_reducible refine Below.setCell ?_ ?_ _) | (with_reducible refine Below.drew ?_) | (with_reducible refine Below.via (by assumption) ?_ ?_) | go_size)); done))) | (go_keep; done))))
          (first
            | (go_at_call 80; ((with_reducible refine (last_impl _ A _ (R3.out.below (by (repeat' (first | (with_reducible exact Below.refl _ _) | (with_reducible assumption) | (with_reducible refine Below.alloc ?_ ?_ _) | (with_reducible refine Below.setCell ?_ ?_ _) | (with_reducible refine Below.drew ?_) | (with_reducible refine Below.via (by assumption) ?_ ?_) | go_size)))) Han.out (by omega)).mono ?_); rintro e wl ⟨rfl, dl⟩; rw [Hlz.out]; have zl := dl.size; (try simp only [World.size_drew, World.size_alloc] at zl); obtain ⟨cl, fl⟩ := bcell dl; (try have ll1 : w1.heap.size < wl.heap.size := by omega)))
            | (go_at_call 133; ((with_reducible refine (inverse_impl lz m _ (by omega) (by omega) (by omega) (by omega)).mono ?_); rintro e w' ⟨rfl, rfl⟩)))
        all_goals (go_wp2_with fail; go_meet; (first | (refine ⟨_, wl.heap.size, rfl, ?_, ?_, ?_, ?_⟩ <;> (first | (go_simp; done) | omega | (simp; omega) | (skip; (repeat' (first | (with_reducible exact Below.refl _ _) | (with_reducible assumption) | (with_reducible refine Below.alloc ?_ ?_ _) | (with_reducible refine Below.setCell ?_ ?_ _) | (with_reducible refine Below.drew ?_) | (with_reducible refine Below.via (by assumption) ?_ ?_) | go_size)); done))) | (refine ⟨_, wl.heap.size + 1, rfl, ?_, ?_, ?_, ?_⟩ <;> (first | (go_simp; done) | omega | (simp; omega) | (skip; (repeat' (first | (with_reducible exact Below.refl _ _) | (with_reducible assumption) | (with_reducible refine Below.alloc ?_ ?_ _) | (with_reducible refine Below.setCell ?_ ?_ _) | (with_reducible refine Below.drew ?_) | (with_reducible refine Below.via (by assumption) ?_ ?_) | go_size)); done)))))
      case rest =>
        obtain ⟨g15, gd, rfl, xg, xd, hg15, Bx⟩ := hcut
        rename World => wx
        have HBx := Lib.hid (HB1.out.below Bx)
        have zx := Bx.size
        have Rby := Lib.hid (RdI.one xd)
        clear HB1 Bx xd x3 x5 R3 l3 l5
        have m5 := HBx.out.m5
        have c6 := HBx.out.c6
        have c7 := HBx.out.c7
        have f6 := HBx.out.f6
        have f7 := HBx.out.f7
        obtain ⟨pS, qS, xS, yS, rS⟩ := HBx.out.b8
        obtain ⟨pT, qT, xT, yT, rT⟩ := HBx.out.b9
        have RS := Lib.hid rS.rd
        have RT := Lib.hid rT.rd
        have lS := World.block_lt_of_cell? _ _ xS
        have lT := World.block_lt_of_cell? _ _ xT
        have lG := World.block_lt_of_cell? _ _ xg
        have lM := World.block_lt_of_cell? _ _ m5
        have l6 := World.block_lt_of_cell? _ _ c6
        have l7 := World.block_lt_of_cell? _ _ c7
        simp only at lS lT lG lM l6 l7
        clear rS rT yS yT
        have n67 : ¬ (a6 = a7) := by have := HA.out; omega
        have n76 : ¬ (a7 = a6) := by have := HA.out; omega
        go_wp2_with fail
        go_region_held3 (fun w' => w'.cell? ⟨a8, 0, none⟩ = some (.slice pS s.length qS) ∧ w'.cell? ⟨a9, 0, none⟩ = some (.slice pT t.length qT) ∧ w'.cell? ⟨g15, 0, none⟩ = some (.slice (some ⟨gd, 0, none⟩) 1 1) ∧ w'.cell? ⟨a5, 0, none⟩ = some (.int .i64 m))
          (((try dsimp only); (repeat' (refine And.intro ?_ ?_)); all_goals (first | assumption | (rw [cellZ (by have := HA.out; omega), cellZ (by have := HA.out; omega)]; first | assumption | (refine (Below.cell (B := wx.heap.size) (w := wx) ?_ ?_).trans ?_ <;> (first | assumption | omega | (simp only; omega) | (skip; (repeat' (first | (with_reducible exact Below.refl _ _) | (with_reducible assumption) | (with_reducible refine Below.alloc ?_ ?_ _) | (with_reducible refine Below.setCell ?_ ?_ _) | (with_reducible refine Below.drew ?_) | (with_reducible refine Below.via (by assumption) ?_ ?_) | go_size)); done)))) | (rw [cellZ (by have := HA.out; omega)]; first | assumption | (refine (Below.cell (B := wx.heap.size) (w := wx) ?_ ?_).trans ?_ <;> (first | assumption | omega | (simp only; omega) | (skip; (repeat' (first | (with_reducible exact Below.refl _ _) | (with_reducible assumption) | (with_reducible refine Below.alloc ?_ ?_ _) | (with_reducible refine Below.setCell ?_ ?_ _) | (with_reducible refine Below.drew ?_) | (with_reducible refine Below.via (by assumption) ?_ ?_) | go_size)); done)))) | (refine (Below.cell (B := wx.heap.size) (w := wx) ?_ ?_).trans ?_ <;> (first | assumption | omega | (simp only; omega) | (skip; (repeat' (first | (with_reducible exact Below.refl _ _) | (with_reducible assumption) | (with_reducible refine Below.alloc ?_ ?_ _) | (with_reducible refine Below.setCell ?_ ?_ _) | (with_reducible refine Below.drew ?_) | (with_reducible refine Below.via (by assumption) ?_ ?_) | go_size)); done))) | (go_keep; done))))
          (first
            | (go_at_call 82; ((with_reducible refine (mulOver_impl _ _ s [invZ lz m] m _ (RS.out.below (by (repeat' (first | (with_reducible exact Below.refl _ _) | (with_reducible assumption) | (with_reducible refine Below.alloc ?_ ?_ _) | (with_reducible refine Below.setCell ?_ ?_ _) | (with_reducible refine Below.drew ?_) | (with_reducible refine Below.via (by assumption) ?_ ?_) | go_size)))) (Rby.out.below (by (repeat' (first | (with_reducible exact Below.refl _ _) | (with_reducible assumption) | (with_reducible refine Below.alloc ?_ ?_ _) | (with_reducible refine Below.setCell ?_ ?_ _) | (with_reducible refine Below.drew ?_) | (with_reducible refine Below.via (by assumption) ?_ ?_) | go_size)))) Hm.out Os.out Hoi.out (by simp only [List.length_singleton]; omega)).mono ?_); rintro e wc ⟨vc, rfl, oc, dc⟩; obtain ⟨pc, qc, rfl⟩ := oc.rd.shape; have zc := dc.size; (try simp only [World.size_drew, World.size_alloc] at zc); have Bc := (show Below wx.heap.size wx wc by (repeat' (first | (with_reducible exact Below.refl _ _) | (with_reducible assumption) | (with_reducible refine Below.alloc ?_ ?_ _) | (with_reducible refine Below.setCell ?_ ?_ _) | (with_reducible refine Below.drew ?_) | (with_reducible refine Below.via (by assumption) ?_ ?_) | go_size))); have c6c := (Bc.cell (p := ⟨a6, 0, none⟩) l6).trans c6; have f6c := (Bc.frozen (p := ⟨a6, 0, none⟩) l6).trans f6; have c7c := (Bc.cell (p := ⟨a7, 0, none⟩) l7).trans c7; have f7c := (Bc.frozen (p := ⟨a7, 0, none⟩) l7).trans f7))
            | (go_at_call 82; ((with_reducible refine (mulOver_impl _ _ t [invZ lz m] m _ (RT.out.below (by (repeat' (first | (with_reducible exact Below.refl _ _) | (with_reducible assumption) | (with_reducible refine Below.alloc ?_ ?_ _) | (with_reducible refine Below.setCell ?_ ?_ _) | (with_reducible refine Below.drew ?_) | (with_reducible refine Below.via (by assumption) ?_ ?_) | go_size)))) (Rby.out.below (by (repeat' (first | (with_reducible exact Below.refl _ _) | (with_reducible assumption) | (with_reducible refine Below.alloc ?_ ?_ _) | (with_reducible refine Below.setCell ?_ ?_ _) | (with_reducible refine Below.drew ?_) | (with_reducible refine Below.via (by assumption) ?_ ?_) | go_size)))) Hm.out Ot.out Hoi.out (by simp only [List.length_singleton]; omega)).mono ?_); rintro e we ⟨ve, rfl, oe, de⟩; obtain ⟨pe, qe, rfl⟩ := oe.rd.shape; have ze := de.size; (try simp only [World.size_drew, World.size_alloc] at ze); have Be := (show Below wx.heap.size wx we by (repeat' (first | (with_reducible exact Below.refl _ _) | (with_reducible assumption) | (with_reducible refine Below.alloc ?_ ?_ _) | (with_reducible refine Below.setCell ?_ ?_ _) | (with_reducible refine Below.drew ?_) | (with_reducible refine Below.via (by assumption) ?_ ?_) | go_size))); have c6e := (Be.cell (p := ⟨a6, 0, none⟩) l6).trans c6; have f6e := (Be.frozen (p := ⟨a6, 0, none⟩) l6).trans f6; have c7e := (Be.cell (p := ⟨a7, 0, none⟩) l7).trans c7; have f7e := (Be.frozen (p := ⟨a7, 0, none⟩) l7).trans f7)))
        go_wp2_with fail
        (try simp only [Exit.inBlock, Exit.then]); refine bodyPost_ret (by simp [results, Try.results87, go_sem, *]; try rfl) rfl ?_
        rw [ES.out, ET.out]
        have hwA := HA.out
        have hbw := HBx.out.bel
        have zbw := hbw.size
        exact ⟨_, _, rfl, OwI.mono (B := wx.drew.heap.size) (OwI.setCell (OwI.setCell (oc.below de) (a := ⟨a6, 0, none⟩) (by simp only [World.size_drew]; omega) _) (a := ⟨a7, 0, none⟩) (by simp only [World.size_drew]; omega) _) (by simp only [World.size_drew]; omega),
          OwI.mono (B := wc.heap.size) (OwI.setCell (OwI.setCell oe (a := ⟨a6, 0, none⟩) (by simp only; omega) _) (a := ⟨a7, 0, none⟩) (by simp only; omega) _) (by omega),
          Below.setCell (Below.setCell (hbw.trans (Be.mono zbw)) (by simp only; omega) _) (by simp only; omega) _⟩

end Go.Proofs.Ytlnjkjogedbhfaa
