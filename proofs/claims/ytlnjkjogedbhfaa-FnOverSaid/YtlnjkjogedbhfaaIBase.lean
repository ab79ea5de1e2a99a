/- Lists of integers in memory: what reads as a list, what the call itself has made; small plain laws. Conditions: none. -/
import Derived.WalkLawsBesides
import Derived.WalkKit
import Derived.Deep.Draws
import Derived.WalkSpells
import Derived.Lib.Hide
import Derived.Outline
import Derived.OwnWalk
import Derived.Below
import Derived.LoopTactic
import Derived.Deep.LoopGhost
import Derived.Deep.AppendLies
import Derived.Maps.AppendAt
import Derived.BigQuiet
import Derived.WalkSmall
import Derived.Test.YtlnjkjogedbhfaaChecked
namespace Go.Proofs.Ytlnjkjogedbhfaa
open Go Go.RowKit
set_option linter.unusedSimpArgs false
set_option linter.unusedVariables false

/-- A number lies within two others. -/
def inB (lo n hi : Int) : Bool := decide (lo ≤ n ∧ n ≤ hi)
theorem inB_true {lo n hi : Int} : inB lo n hi = true ↔ lo ≤ n ∧ n ≤ hi := by simp [inB]
theorem inB_false {lo n hi : Int} : inB lo n hi = false ↔ ¬ (lo ≤ n ∧ n ≤ hi) := by simp [inB]

/-- The cells of a list of integers. -/
def cellsI (zs : List Int) : List Value := zs.map (Value.int .i64)
@[simp] theorem cellsI_length (zs : List Int) : (cellsI zs).length = zs.length := by simp [cellsI]
theorem cellsI_get {zs : List Int} {i : Nat} (h : i < zs.length) : (cellsI zs)[i]? = some (.int .i64 (zs.getD i 0)) := by simp [cellsI, List.getD, h]

/-- A slice of integers that reads as 'zs'. -/
def RdI (w : World) (v : Value) (zs : List Int) : Prop :=
  ∃ ao cap, v = .slice ao zs.length cap ∧ (zs.length ≤ cap ∧ cap ≤ maxLen) ∧ (zs = [] ∨ ∃ b off, ao = some ⟨b, off, none⟩ ∧ ∀ i, i < zs.length → w.cell? ⟨b, off + i, none⟩ = some (.int .i64 (zs.getD i 0)))

/-- A slice of integers of the call's own: at the head of a block from 'B' on. -/
def OwI (w : World) (B : Nat) (v : Value) (zs : List Int) : Prop :=
  (v = .slice none 0 0 ∧ zs = []) ∨
  ∃ g cap cur, v = .slice (some ⟨g, 0, none⟩) zs.length cap ∧ B ≤ g ∧ w.heap[g]? = some (.cells cur 2 (0, 0)) ∧ zs.length ≤ cap ∧ cap ≤ cur.size ∧ cur.size ≤ maxLen ∧ cur.toList.take zs.length = cellsI zs

theorem OwI.of_row {w : World} {B : Nat} {v : Value} {n : Nat} {zs : List Int} (h : w.ownsRow B 2 1 v n (cellsI zs)) : OwI w B v zs := by
  have hn : zs.length = n := by have := h.1; simpa using this
  rcases h.2 with ⟨hv, h0⟩ | ⟨g, cap, cur, hv, hb, hg, hle, hm, hs, ht⟩
  · exact .inl ⟨hv, by rw [h0] at hn; simpa using hn⟩
  · exact .inr ⟨g, cap, cur, by rw [hn]; exact hv, hb, hg, by omega, by omega, by omega, by rw [hn]; simpa using ht⟩

theorem OwI.rd {w : World} {B : Nat} {v : Value} {zs : List Int} (h : OwI w B v zs) : RdI w v zs := by
  rcases h with ⟨rfl, rfl⟩ | ⟨g, cap, cur, rfl, _, hg, h1, h2, hmx, ht⟩
  · exact ⟨none, 0, rfl, ⟨by simp, by simp [maxLen]⟩, .inl rfl⟩
  · refine ⟨_, cap, rfl, ⟨by omega, by omega⟩, .inr ⟨g, 0, rfl, fun i hi => ?_⟩⟩
    rw [Nat.zero_add, cell_of_row w g i cur _ (0, 0) hg]
    have := congrArg (·[i]?) ht
    simp only [List.getElem?_take, if_pos hi, cellsI_get hi] at this
    simpa using this

theorem OwI.mono {w : World} {B B' : Nat} {v : Value} {zs : List Int} (h : OwI w B v zs) (hb : B' ≤ B) : OwI w B' v zs := by
  rcases h with h | ⟨g, cap, cur, h1, h2, h3⟩
  · exact .inl h
  · exact .inr ⟨g, cap, cur, h1, Nat.le_trans hb h2, h3⟩

theorem OwI.below {w w' : World} {B : Nat} {v : Value} {zs : List Int} (h : OwI w B v zs) (hb : Below w.heap.size w w') : OwI w' B v zs := by
  rcases h with h | ⟨g, cap, cur, h1, h2, h3, h4⟩
  · exact .inl h
  · exact .inr ⟨g, cap, cur, h1, h2, by rw [hb.block g (Array.getElem?_eq_some_iff.1 h3).1]; exact h3, h4⟩

theorem OwI.alloc {w : World} {B : Nat} {v : Value} {zs : List Int} (h : OwI w B v zs) (o : Obj) : OwI (w.alloc o) B v zs := h.below ((Below.refl _ _).alloc (Nat.le_refl _) o)

theorem RdI.below {w w' : World} {v : Value} {zs : List Int} (h : RdI w v zs) (hb : Below w.heap.size w w') : RdI w' v zs := by
  obtain ⟨ao, cap, hv, hcp, hr⟩ := h
  refine ⟨ao, cap, hv, hcp, ?_⟩
  rcases hr with hr | ⟨b, off, ha, hc⟩
  · exact .inl hr
  · refine .inr ⟨b, off, ha, fun i hi => ?_⟩
    rw [hb.cell (World.block_lt_of_cell? w _ (hc i hi))]
    exact hc i hi
theorem RdI.alloc {w : World} {v : Value} {zs : List Int} (h : RdI w v zs) (o : Obj) : RdI (w.alloc o) v zs := h.below ((Below.refl _ _).alloc (Nat.le_refl _) o)

/-- What is read is there. -/
theorem RdI.open {w : World} {v : Value} {zs : List Int} (h : RdI w v zs) (hn : zs ≠ []) : ∃ b off cap, v = .slice (some ⟨b, off, none⟩) zs.length cap ∧ b < w.heap.size ∧ ∀ i, i < zs.length → w.cell? ⟨b, off + i, none⟩ = some (.int .i64 (zs.getD i 0)) := by
  obtain ⟨ao, cap, rfl, _, hr⟩ := h
  rcases hr with hr | ⟨b, off, rfl, hc⟩
  · exact absurd hr hn
  · have h0 : 0 < zs.length := List.length_pos_iff.2 hn
    exact ⟨b, off, cap, rfl, World.block_lt_of_cell? w _ (hc 0 h0), hc⟩
theorem RdI.openC {w : World} {v : Value} {zs : List Int} (h : RdI w v zs) (hn : zs ≠ []) : ∃ b off cap, v = .slice (some ⟨b, off, none⟩) zs.length cap ∧ b < w.heap.size ∧ (zs.length ≤ cap ∧ cap ≤ maxLen) ∧ ∀ i, i < zs.length → w.cell? ⟨b, off + i, none⟩ = some (.int .i64 (zs.getD i 0)) := by
  have h1 := h
  obtain ⟨b, off, cap, rfl, hb, hc⟩ := h.open hn
  obtain ⟨ao, cap', hv, hcp, _⟩ := h1
  simp only [Value.slice.injEq] at hv
  obtain ⟨_, _, rfl⟩ := hv
  exact ⟨b, off, cap, rfl, hb, hcp, hc⟩
theorem RdI.shape {w : World} {v : Value} {zs : List Int} (h : RdI w v zs) : ∃ ao cap, v = .slice ao zs.length cap := by
  obtain ⟨ao, cap, rfl, _⟩ := h
  exact ⟨ao, cap, rfl⟩

/-- Cut at the front's end, with whatever capacity is left. -/
theorem OwI.take {w : World} {B g len cap : Nat} {zs : List Int} (h : OwI w B (.slice (some ⟨g, 0, none⟩) len cap) zs) {n c : Nat} (hn : n ≤ zs.length) (h1 : n ≤ c) (h2 : c ≤ cap) : OwI w B (.slice (some ⟨g, 0, none⟩) n c) (zs.take n) := by
  have hl : (zs.take n).length = n := by simp; omega
  rcases h with ⟨h, _⟩ | ⟨g', cap', cur, hv, hb, hg, h3, h4, h5, ht⟩
  · simp at h
  · simp only [Value.slice.injEq, Option.some.injEq, Addr.mk.injEq, and_true, true_and] at hv
    obtain ⟨rfl, rfl, rfl⟩ := hv
    refine .inr ⟨g, c, cur, by rw [hl], hb, hg, by omega, by omega, h5, ?_⟩
    rw [hl, cellsI, List.map_take, ← cellsI, ← ht, List.take_take, Nat.min_eq_left hn]

theorem RdI.take {w : World} {b off len cap : Nat} {zs : List Int} (h : RdI w (.slice (some ⟨b, off, none⟩) len cap) zs) {n c : Nat} (hn : n ≤ zs.length) (hcn : n ≤ c) (hcm : c ≤ maxLen) : RdI w (.slice (some ⟨b, off, none⟩) n c) (zs.take n) := by
  have hl : (zs.take n).length = n := by simp; omega
  obtain ⟨ao, cap', hv, _, hr⟩ := h
  simp only [Value.slice.injEq] at hv
  obtain ⟨rfl, rfl, rfl⟩ := hv
  refine ⟨_, c, by rw [hl], ⟨by omega, hcm⟩, ?_⟩
  rcases hr with rfl | ⟨b', off', ha, hc⟩
  · left; simp
  · simp only [Option.some.injEq, Addr.mk.injEq, and_true] at ha
    obtain ⟨rfl, rfl⟩ := ha
    refine .inr ⟨b, off, rfl, fun i hi => ?_⟩
    rw [hl] at hi
    rw [hc i (by omega)]
    simp [List.getD, List.getElem?_take, hi]

theorem bcell {W w1 : World} (hb : Below W.heap.size W w1) : (∀ b o, b < W.heap.size → w1.cell? ⟨b, o, none⟩ = W.cell? ⟨b, o, none⟩) ∧ (∀ b o, b < W.heap.size → w1.frozen? ⟨b, o, none⟩ = W.frozen? ⟨b, o, none⟩) :=
  ⟨fun b o h => hb.cell (p := ⟨b, o, none⟩) h, fun b o h => hb.frozen (p := ⟨b, o, none⟩) h⟩

theorem grown_of_below {w w' : World} (h : Below w.heap.size w w') : w.grownBy w' none := ⟨h.os, h.tape, h.output, h.size, fun k hk _ => h.block k hk⟩
theorem ownsRow_below {w w' : World} {B e size : Nat} {v : Value} {n : Nat} {xs : List Value} (h : w.ownsRow B e size v n xs) (hb : Below w.heap.size w w') : w'.ownsRow B e size v n xs := by
  refine h.kept (grown_of_below hb) ?_
  cases hv : v.ownBlock with
  | none => exact .inl rfl
  | some g => exact .inr (by simp)
theorem below_un {w w1 : World} {m : Nat} (h : Below (w.drewN m).heap.size (w.drewN m) w1) : Below w.heap.size w w1 := ⟨h.os, h.tape, h.output, h.size, h.block⟩

/-! Posts. -/
/-- A bool; memory may have been made. -/
def RB (b : Bool) (w : World) (e : Ending) (w' : World) : Prop := e = .returned (.bool b) ∧ Below w.heap.size w w'
/-- A number. -/
def RZ (z : Int) (w : World) (e : Ending) (w' : World) : Prop := e = .returned (.int .i64 z) ∧ Below w.heap.size w w'
/-- A new list. -/
def RL (zs : List Int) (w : World) (e : Ending) (w' : World) : Prop := ∃ v, e = .returned v ∧ OwI w' w.heap.size v zs ∧ Below w.heap.size w w'
/-- A new whole. -/
def RW (zs : List Int) (w : World) (e : Ending) (w' : World) : Prop := ∃ v, e = .returned (.agg #[v]) ∧ OwI w' w.heap.size v zs ∧ Below w.heap.size w w'
/-- A new whole, and whether it is there. -/
def RWB (F : List Int × Bool) (w : World) (e : Ending) (w' : World) : Prop := ∃ v, e = .returned (.tuple #[.agg #[v], .bool F.2]) ∧ OwI w' w.heap.size v F.1 ∧ Below w.heap.size w w'

theorem info2 : (Try.prog.info? 2).map (fun i => (i.zero, i.size, i.bytes)) = some (some (.int .i64 0), 1, 8) := by kernel_rfl

end Go.Proofs.Ytlnjkjogedbhfaa
