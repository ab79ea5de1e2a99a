/- Lists of values of one cell each in memory: what reads as a list, what the call itself has made, and how it grows. Conditions: none. -/
import Derived.Test.YtklonahkacikbaaU1
import Derived.Test.YtklonahkacikbaaChecked
import Derived.LoopTactic
import Derived.Deep.LoopGhost
import Derived.BigQuiet
import Derived.WalkSmall
import Derived.Handy
import Derived.Maps.AppendAt
import Derived.Laws.OwnMore
import Derived.Laws.Externs
namespace Go.Proofs.Ytklonahkacikbaa
set_option linter.unusedSimpArgs false
set_option linter.unusedVariables false
open Go Go.RowKit

theorem bcell {W w1 : World} (hb : Below W.heap.size W w1) : (∀ b o, b < W.heap.size → w1.cell? ⟨b, o, none⟩ = W.cell? ⟨b, o, none⟩) ∧ (∀ b o, b < W.heap.size → w1.frozen? ⟨b, o, none⟩ = W.frozen? ⟨b, o, none⟩) :=
  ⟨fun b o h => hb.cell (p := ⟨b, o, none⟩) h, fun b o h => hb.frozen (p := ⟨b, o, none⟩) h⟩
theorem Below.via {W w w' : World} {B : Nat} (hb : Below W.heap.size W w') (h : Below B w W) (hs : B ≤ W.heap.size) : Below B w w' := h.trans (hb.mono hs)
/-- A bool, of a call that makes no memory. -/
def RetB (b : Bool) (w : World) (e : Ending) (w' : World) : Prop := ∃ m, e = .returned (.bool b) ∧ w' = w.drewN m
/-- A bool; memory may have been made. -/
def RB (b : Bool) (w : World) (e : Ending) (w' : World) : Prop := e = .returned (.bool b) ∧ Below w.heap.size w w'

/-- A slice that reads as 'xs'. -/
def RdV (w : World) (v : Value) (xs : List Value) : Prop :=
  ∃ ao cap, v = .slice ao xs.length cap ∧ (xs.length ≤ cap ∧ cap ≤ maxLen) ∧ (xs = [] ∨ ∃ b off, ao = some ⟨b, off, none⟩ ∧ ∀ i, i < xs.length → w.cell? ⟨b, off + i, none⟩ = xs[i]?)

/-- A slice of the call's own: at the head of a block from 'B' on. -/
def OwV (e : TypeId) (w : World) (B : Nat) (v : Value) (xs : List Value) : Prop :=
  (v = .slice none 0 0 ∧ xs = []) ∨
  ∃ g cap cur, v = .slice (some ⟨g, 0, none⟩) xs.length cap ∧ B ≤ g ∧ w.heap[g]? = some (.cells cur e (0, 0)) ∧ xs.length ≤ cap ∧ cap ≤ cur.size ∧ cur.size ≤ maxLen ∧ cur.toList.take xs.length = xs

section
variable {e : TypeId} {w w' : World} {B B' : Nat} {v : Value} {xs : List Value}

theorem OwV.of_row {n : Nat} (h : w.ownsRow B e 1 v n xs) : OwV e w B v xs := by
  have hn : xs.length = n := by have := h.1; simpa using this
  rcases h.2 with ⟨hv, h0⟩ | ⟨g, cap, cur, hv, hb, hg, hle, hm, hs, ht⟩
  · exact .inl ⟨hv, by rw [h0] at hn; simpa using hn⟩
  · exact .inr ⟨g, cap, cur, by rw [hn]; exact hv, hb, hg, by omega, by omega, by omega, by rw [hn]; simpa using ht⟩

theorem take_get {cur ys : List Value} {i : Nat} (ht : cur.take ys.length = ys) (hi : i < ys.length) : cur[i]? = ys[i]? := by
  have := congrArg (·[i]?) ht
  simp only [List.getElem?_take, if_pos hi] at this
  exact this

theorem OwV.rd (h : OwV e w B v xs) : RdV w v xs := by
  rcases h with ⟨rfl, rfl⟩ | ⟨g, cap, cur, rfl, _, hg, h1, h2, hmx, ht⟩
  · exact ⟨none, 0, rfl, ⟨by simp, by simp [maxLen]⟩, .inl rfl⟩
  · refine ⟨_, cap, rfl, ⟨by omega, by omega⟩, .inr ⟨g, 0, rfl, fun i hi => ?_⟩⟩
    rw [Nat.zero_add, cell_of_row w g i cur _ (0, 0) hg]
    have := take_get ht hi
    simpa using this

theorem OwV.mono (h : OwV e w B v xs) (hb : B' ≤ B) : OwV e w B' v xs := by
  rcases h with h | ⟨g, cap, cur, h1, h2, h3⟩
  · exact .inl h
  · exact .inr ⟨g, cap, cur, h1, Nat.le_trans hb h2, h3⟩

theorem OwV.below (h : OwV e w B v xs) (hb : Below w.heap.size w w') : OwV e w' B v xs := by
  rcases h with h | ⟨g, cap, cur, h1, h2, h3, h4⟩
  · exact .inl h
  · exact .inr ⟨g, cap, cur, h1, h2, by rw [hb.block g (Array.getElem?_eq_some_iff.1 h3).1]; exact h3, h4⟩

theorem RdV.below (h : RdV w v xs) (hb : Below w.heap.size w w') : RdV w' v xs := by
  obtain ⟨ao, cap, hv, hcp, hr⟩ := h
  refine ⟨ao, cap, hv, hcp, ?_⟩
  rcases hr with hr | ⟨b, off, ha, hc⟩
  · exact .inl hr
  · refine .inr ⟨b, off, ha, fun i hi => ?_⟩
    have hs : w.cell? ⟨b, off + i, none⟩ = some xs[i] := by rw [hc i hi]; simp
    rw [hb.cell (World.block_lt_of_cell? w _ hs)]
    exact hc i hi
theorem RdV.alloc (h : RdV w v xs) (o : Obj) : RdV (w.alloc o) v xs := h.below ((Below.refl _ _).alloc (Nat.le_refl _) o)
theorem RdV.shape (h : RdV w v xs) : ∃ ao cap, v = .slice ao xs.length cap ∧ xs.length ≤ cap ∧ cap ≤ maxLen := by
  obtain ⟨ao, cap, rfl, h, _⟩ := h
  exact ⟨ao, cap, rfl, h⟩
theorem RdV.open (h : RdV w v xs) (hn : xs ≠ []) : ∃ b off cap, v = .slice (some ⟨b, off, none⟩) xs.length cap ∧ b < w.heap.size ∧ (xs.length ≤ cap ∧ cap ≤ maxLen) ∧ ∀ i, i < xs.length → w.cell? ⟨b, off + i, none⟩ = xs[i]? := by
  obtain ⟨ao, cap, rfl, hcp, hr⟩ := h
  rcases hr with hr | ⟨b, off, rfl, hc⟩
  · exact absurd hr hn
  · have h0 : 0 < xs.length := List.length_pos_iff.2 hn
    have hs : w.cell? ⟨b, off + 0, none⟩ = some xs[0] := by rw [hc 0 h0]; simp
    exact ⟨b, off, cap, rfl, World.block_lt_of_cell? w _ hs, hcp, hc⟩

/-- Cut at the front's end, with whatever capacity is left. -/
theorem OwV.take {g len cap : Nat} (h : OwV e w B (.slice (some ⟨g, 0, none⟩) len cap) xs) {n c : Nat} (hn : n ≤ xs.length) (h1 : n ≤ c) (h2 : c ≤ cap) : OwV e w B (.slice (some ⟨g, 0, none⟩) n c) (xs.take n) := by
  have hl : (xs.take n).length = n := by simp; omega
  rcases h with ⟨h, _⟩ | ⟨g', cap', cur, hv, hb, hg, h3, h4, h5, ht⟩
  · simp at h
  · simp only [Value.slice.injEq, Option.some.injEq, Addr.mk.injEq, and_true, true_and] at hv
    obtain ⟨rfl, rfl, rfl⟩ := hv
    refine .inr ⟨g, c, cur, by rw [hl], hb, hg, by omega, by omega, h5, ?_⟩
    rw [hl]
    conv => rhs; rw [← ht]
    rw [List.take_take, Nat.min_eq_left hn]

theorem RdV.take {b off len cap : Nat} (h : RdV w (.slice (some ⟨b, off, none⟩) len cap) xs) {n c : Nat} (hn : n ≤ xs.length) (hcn : n ≤ c) (hcm : c ≤ maxLen) : RdV w (.slice (some ⟨b, off, none⟩) n c) (xs.take n) := by
  have hl : (xs.take n).length = n := by simp; omega
  obtain ⟨ao, cap', hv, _, hr⟩ := h
  simp only [Value.slice.injEq] at hv
  obtain ⟨rfl, rfl, rfl⟩ := hv
  refine ⟨_, c, by rw [hl], ⟨by rw [hl]; exact hcn, hcm⟩, ?_⟩
  rcases hr with rfl | ⟨b', off', ha, hc⟩
  · left; simp
  · simp only [Option.some.injEq, Addr.mk.injEq, and_true] at ha
    obtain ⟨rfl, rfl⟩ := ha
    refine .inr ⟨b, off, rfl, fun i hi => ?_⟩
    rw [hl] at hi
    rw [hc i (by omega)]
    simp [List.getElem?_take, hi]

theorem OwV.open (h : OwV e w B v xs) (hn : xs ≠ []) : ∃ g cap, v = .slice (some ⟨g, 0, none⟩) xs.length cap ∧ B ≤ g ∧ g < w.heap.size ∧ xs.length ≤ cap ∧ cap ≤ maxLen ∧ (∀ j, j < xs.length → w.cell? ⟨g, j, none⟩ = xs[j]?) ∧ ∀ j, w.frozen? ⟨g, j, none⟩ = false := by
  rcases h with ⟨_, h⟩ | ⟨g, cap, cur, rfl, h2, hg, h3, h4, h5, ht⟩
  · exact absurd h hn
  · refine ⟨g, cap, rfl, h2, (Array.getElem?_eq_some_iff.1 hg).1, h3, by omega, fun j hj => ?_, fun j => by simp [World.frozen?, hg]⟩
    rw [cell_of_row w g j cur _ (0, 0) hg]
    have := take_get ht hj
    simpa using this

theorem OwV.set {g n cap : Nat} (h : OwV e w B (.slice (some ⟨g, 0, none⟩) n cap) xs) (j : Nat) (y : Value) : OwV e (w.setCell ⟨g, j, none⟩ y) B (.slice (some ⟨g, 0, none⟩) n cap) (xs.set j y) := by
  rcases h with ⟨h, _⟩ | ⟨g', cap', cur, hv, h2, hg, h3, h4, h5, ht⟩
  · simp at h
  · simp only [Value.slice.injEq, Option.some.injEq, Addr.mk.injEq, and_true, true_and] at hv
    obtain ⟨rfl, rfl, rfl⟩ := hv
    refine .inr ⟨g, cap, cur.setIfInBounds j y, by rw [List.length_set], h2, heap_setCell_same w g j cur _ _ hg, by rw [List.length_set]; exact h3, by simpa using h4, by simpa using h5, ?_⟩
    rw [Array.toList_setIfInBounds, List.length_set]
    conv => rhs; rw [← ht]
    rw [List.take_set]

theorem OwV.lt (h : OwV e w B v xs) : ∀ k, v.ownBlock = some k → B ≤ k ∧ k < w.heap.size := by
  intro k hk
  rcases h with ⟨rfl, _⟩ | ⟨g, cap, cur, rfl, h2, hg, _⟩
  · simp [Value.ownBlock] at hk
  · simp only [Value.ownBlock, Option.some.injEq] at hk
    subst hk
    exact ⟨h2, (Array.getElem?_eq_some_iff.1 hg).1⟩

/-- A write elsewhere. -/
theorem OwV.kept {row : Option Nat} (h : OwV e w B v xs) (hg : w.grownBy w' row) (hne : v.ownBlock = none ∨ v.ownBlock ≠ row) : OwV e w' B v xs := by
  rcases h with h | ⟨g, cap, cur, rfl, h2, hb, h4⟩
  · exact .inl h
  · refine .inr ⟨g, cap, cur, rfl, h2, ?_, h4⟩
    have hlt := (Array.getElem?_eq_some_iff.1 hb).1
    rw [hg.block g hlt (by rcases hne with h | h <;> simp [Value.ownBlock] at h; exact h)]
    exact hb
theorem RdV.kept {row : Option Nat} (h : RdV w v xs) (hg : w.grownBy w' row) (hne : xs = [] ∨ v.ownBlock ≠ row) : RdV w' v xs := by
  obtain ⟨ao, cap', rfl, hcp, hr⟩ := h
  refine ⟨_, _, rfl, hcp, ?_⟩
  rcases hr with hr | ⟨b, off, rfl, hc⟩
  · exact .inl hr
  · by_cases hx : xs = []
    · exact .inl hx
    refine .inr ⟨b, off, rfl, fun i hi => ?_⟩
    have hs : w.cell? ⟨b, off + i, none⟩ = some xs[i] := by rw [hc i hi]; simp
    have hlt := World.block_lt_of_cell? w _ hs
    have hb : w'.heap[b]? = w.heap[b]? := hg.block b hlt (by
      rcases hne with h | h
      · exact absurd h hx
      · simpa [Value.ownBlock] using h)
    rw [World.cell?_of_block (w := w) (w' := w') (a := ⟨b, off + i, none⟩) hb]
    exact hc i hi
end

theorem below_unV {w w1 : World} {m : Nat} (h : Below (w.drewN m).heap.size (w.drewN m) w1) : Below w.heap.size w w1 := ⟨h.os, h.tape, h.output, h.size, h.block⟩
theorem grown_of_belowV {w w' : World} (h : Below w.heap.size w w') : w.grownBy w' none := ⟨h.os, h.tape, h.output, h.size, fun k hk _ => h.block k hk⟩
theorem ownsRow_belowV {w w' : World} {B : Nat} {e : TypeId} {v : Value} {n : Nat} {xs : List Value} (h : w.ownsRow B e 1 v n xs) (hb : Below w.heap.size w w') : w'.ownsRow B e 1 v n xs := by
  refine h.kept (grown_of_belowV hb) ?_
  cases hv : v.ownBlock with
  | none => exact .inl rfl
  | some g => exact .inr (by simp)

section
variable {ops : Array Oper} {rest : List Oper} {o : Oper} {a : Act} {Q : Exit → Act → World → Prop}
/-- A row of the call's own with all of its room: what append takes. -/
def RowV (e : TypeId) (w : World) (B : Nat) (v : Value) (xs : List Value) : Prop := w.ownsRow B e 1 v xs.length xs
theorem RowV.own {e : TypeId} {w : World} {B : Nat} {v : Value} {xs : List Value} (h : RowV e w B v xs) : OwV e w B v xs := OwV.of_row h
theorem RowV.rd {e : TypeId} {w : World} {B : Nat} {v : Value} {xs : List Value} (h : RowV e w B v xs) : RdV w v xs := h.own.rd
theorem RowV.below {e : TypeId} {w w' : World} {B : Nat} {v : Value} {xs : List Value} (h : RowV e w B v xs) (hb : Below w.heap.size w w') : RowV e w' B v xs := ownsRow_belowV h hb
theorem RowV.lt {e : TypeId} {w : World} {B : Nat} {v : Value} {xs : List Value} (h : RowV e w B v xs) : ∀ k, v.ownBlock = some k → B ≤ k ∧ k < w.heap.size := World.ownsRow.lt h

/-- One value more. -/
theorem wpList_pushV {e t : TypeId} {W0 W : World} {B : Nat} {v : Value} {xs : List Value} {y : Value} (z : Value) (bytes : Nat) (hown : RowV e W0 B v xs)
    (hinfo : (Try.prog.info? e).map (fun i => (i.zero, i.size, i.bytes)) = some (some z, 1, bytes)) (hzs : z.cells.size = 1) (h1 : y.oneCell' = true) (hby : bytes ≤ 24)
    (hgd : o.guard = none) (s x : Operand) (ho : o.op = .call { callee := .builtin .append, args := #[s, x], argTypes := #[t, t] })
    (ht : Try.prog.underlying t = some (.slice e)) (hl : xs.length ≤ 1099511627776) (hB : B ≤ W0.heap.size)
    (hs : a.eval s = v) (hx : a.eval x = .slice (some ⟨W.heap.size, 0, none⟩) 1 1) (hW : W.heap = W0.heap) (hos : W.os = W0.os) (htp : W.tape = W0.tape) (hout : W.output = W0.output)
    (h : ∀ v' w', RowV e w' B v' (xs ++ [y]) → Below B W0 w' → W0.grownBy w' v.ownBlock → (v'.ownBlock = v.ownBlock ∨ ∃ g, v'.ownBlock = some g ∧ W0.heap.size ≤ g) → wpList Try.prog ops Q rest (a.put o.dst v') w') :
    wpList Try.prog ops Q (o :: rest) a (W.alloc (.cells #[y] e)) := by
  cases hi : Try.prog.info? e with
  | none => rw [hi] at hinfo; cases hinfo
  | some i =>
  rw [hi] at hinfo
  simp only [Option.map_some, Option.some.injEq, Prod.mk.injEq] at hinfo
  have hbb : (xs.length + 1) * bytes ≤ 140737488355328 := by
    have : (xs.length + 1) * bytes ≤ (xs.length + 1) * 24 := Nat.mul_le_mul_left _ hby
    omega
  refine wpList_push hown i z bytes hi hinfo.1 hinfo.2.1 hinfo.2.2 hzs hgd s x t ho ht W y hs hx hW h1 (by unfold maxLen; omega) hbb hB ?_
  intro g cap w1 hown1 hat hlt hgrow
  have hg0 : W0.grownBy w1 v.ownBlock := ⟨hgrow.os.trans hos, hgrow.tape.trans htp, hgrow.output.trans hout, by rw [← hW]; exact hgrow.size, fun k hk hne => by rw [← hW]; exact hgrow.block k (by rw [hW]; exact hk) hne⟩
  have hlen : (xs ++ [y]).length = xs.length + 1 := by simp
  refine h (.slice (some ⟨g, 0, none⟩) (xs.length + 1) cap) w1 (by unfold RowV; rw [hlen]; exact hown1) ?_ hg0 ?_
  · exact (Below.refl B W0).grown hg0 hB (fun k hk => (World.ownsRow.lt hown k hk).1)
  · rcases hat with h | h
    · exact .inl h.symm
    · exact .inr ⟨g, rfl, by omega⟩

/-- A copy: all of a list appended to a new empty one. -/
theorem wpList_cloneV {e t : TypeId} {W : World} {E : Nat} {v : Value} {xs : List Value} (z : Value) (bytes : Nat)
    (hinfo : (Try.prog.info? e).map (fun i => (i.zero, i.size, i.bytes)) = some (some z, 1, bytes)) (hzs : z.cells.size = 1) (h1 : ∀ u ∈ xs, u.oneCell' = true) (hby : bytes ≤ 24)
    (hgd : o.guard = none) (s x : Operand) (ho : o.op = .call { callee := .builtin .append, args := #[s, x], argTypes := #[t, t] })
    (ht : Try.prog.underlying t = some (.slice e)) (hrd : RdV W v xs) (hn : xs ≠ []) (hl : xs.length ≤ 1099511627776)
    (hs : a.eval s = .slice (some ⟨E, 0, none⟩) 0 0) (hx : a.eval x = v) (hE : E = W.heap.size)
    (h : ∀ g cap w', W.heap.size ≤ g → OwV e w' W.heap.size (.slice (some ⟨g, 0, none⟩) xs.length cap) xs → Below W.heap.size W w' → wpList Try.prog ops Q rest (a.put o.dst (.slice (some ⟨g, 0, none⟩) xs.length cap)) w') :
    wpList Try.prog ops Q (o :: rest) a (W.alloc (.cells #[] e)) := by
  subst hE
  have hown : (W.alloc (.cells #[] e)).ownsRow W.heap.size e 1 (.slice (some ⟨W.heap.size, 0, none⟩) 0 0) 0 [] := World.ownsRow_lit (base := W.heap.size) (size := 1) W #[] 0 (Nat.le_refl _) (by decide) rfl
  obtain ⟨ad, cap0, hv, _, hr⟩ := hrd
  rcases hr with hr | ⟨b, off, rfl, hc⟩
  · exact absurd hr hn
  subst hv
  have h0 : 0 < xs.length := List.length_pos_iff.2 hn
  cases hi : Try.prog.info? e with
  | none => rw [hi] at hinfo; cases hinfo
  | some i =>
  rw [hi] at hinfo
  simp only [Option.map_some, Option.some.injEq, Prod.mk.injEq] at hinfo
  have hbb : (0 + xs.length) * bytes ≤ 140737488355328 := by
    have : (0 + xs.length) * bytes ≤ (0 + xs.length) * 24 := Nat.mul_le_mul_left _ hby
    omega
  refine wpList_append_lies _ hgd s x t ho W.heap.size e i z 1 bytes ht hi hinfo.1 hinfo.2.1 hinfo.2.2 hzs (by decide) _ 0 [] hs hown ⟨b, off, none⟩ xs.length cap0 xs hx (by simp) ?_ h1 h0 (by simp [maxLen]; omega) hbb (by simp) (W.heap.size + 1) (by simp) ?_
  · intro j u hj
    have hj' : j < xs.length := (List.getElem?_eq_some_iff.1 hj).1
    have c := hc j hj'
    rw [hj] at c
    have hb : b < W.heap.size := World.block_lt_of_cell? W _ c
    rw [← c, show (⟨b, off, none⟩ : Addr).add j = ⟨b, off + j, none⟩ from by unfold Addr.add; split <;> simp_all]
    exact ((Below.refl W.heap.size W).alloc (Nat.le_refl _) (.cells #[] e)).cell (p := ⟨b, off + j, none⟩) hb
  · intro g cap w1 hown' hgrow hat hlt
    rw [Nat.zero_add] at hown'
    simp only [Nat.zero_add]
    refine h g cap w1 (by simp [Value.ownBlock] at hat; omega) (by have := OwV.of_row hown'; simpa using this) ?_
    exact ((Below.refl W.heap.size W).alloc (Nat.le_refl _) _).grown hgrow (by simp) (fun k hk => by simp [Value.ownBlock] at hk; omega)
end
end Go.Proofs.Ytklonahkacikbaa

/- Comparisons of floats up to the bits of a NaN; every float32 fits float64. Conditions: none. -/
namespace Go.Proofs.Ytklonahkacikbaa
set_option linter.unusedSimpArgs false
set_option linter.unusedVariables false
open Go Go.RowKit

theorem order_self {d : Ieee.Datum} (h : d.isNaN = false) : Ieee.Datum.order d d = some .eq := by
  cases d with
  | number s m i => simp [Ieee.Datum.order]
  | infinity s => simp [Ieee.Datum.order]
  | nan s f => simp [Ieee.Datum.isNaN] at h
theorem order_self_nan {d : Ieee.Datum} (h : d.isNaN = true) : Ieee.Datum.order d d = none := by
  obtain ⟨s, f, rfl⟩ := isNaN_cases d h; rfl
theorem fcmp_self_nan {k : FloatKind} {x : Nat} (h : isN k x = true) : fcmp .neq k x x = true ∧ fcmp .eql k x x = false := by
  have e : k.format.order x x = none := order_self_nan (d := k.format.read x) h
  simp [fcmp, e]
theorem fcmp_self {k : FloatKind} {x : Nat} (h : isN k x = false) : fcmp .neq k x x = false ∧ fcmp .eql k x x = true := by
  have e : k.format.order x x = some .eq := order_self (d := k.format.read x) h
  simp [fcmp, e]

@[go_sem high] theorem binOp_fcmp_eql (t : TypeId) (k : FloatKind) (a b : Nat) : binOp .eql t (.float k a) (.float k b) = pure (.bool (fcmp .eql k (nrm k a) (nrm k b))) := by rw [fcmp_nrm]; simp [binOp, Op.floatCmp, fcmp]
@[go_sem high] theorem binOp_fcmp_neq (t : TypeId) (k : FloatKind) (a b : Nat) : binOp .neq t (.float k a) (.float k b) = pure (.bool (fcmp .neq k (nrm k a) (nrm k b))) := by rw [fcmp_nrm]; simp [binOp, Op.floatCmp, fcmp]
@[go_sem high] theorem binOp_fcmp_lss (t : TypeId) (k : FloatKind) (a b : Nat) : binOp .lss t (.float k a) (.float k b) = pure (.bool (fcmp .lss k (nrm k a) (nrm k b))) := by rw [fcmp_nrm]; simp [binOp, Op.floatCmp, fcmp]
@[go_sem high] theorem binOp_fcmp_leq (t : TypeId) (k : FloatKind) (a b : Nat) : binOp .leq t (.float k a) (.float k b) = pure (.bool (fcmp .leq k (nrm k a) (nrm k b))) := by rw [fcmp_nrm]; simp [binOp, Op.floatCmp, fcmp]
@[go_sem high] theorem binOp_fcmp_gtr (t : TypeId) (k : FloatKind) (a b : Nat) : binOp .gtr t (.float k a) (.float k b) = pure (.bool (fcmp .gtr k (nrm k a) (nrm k b))) := by rw [fcmp_nrm]; simp [binOp, Op.floatCmp, fcmp]
@[go_sem high] theorem binOp_fcmp_geq (t : TypeId) (k : FloatKind) (a b : Nat) : binOp .geq t (.float k a) (.float k b) = pure (.bool (fcmp .geq k (nrm k a) (nrm k b))) := by rw [fcmp_nrm]; simp [binOp, Op.floatCmp, fcmp]

theorem single_facts : Ieee.single.signWeight = 2147483648 ∧ Ieee.single.binade = 8388608 ∧ Ieee.single.infRung = 2139095040 ∧ Ieee.single.leastPlace = -149 := by decide +kernel
theorem double_facts : Ieee.double.signWeight = 9223372036854775808 ∧ Ieee.double.binade = 4503599627370496 ∧ Ieee.double.infRung = 9218868437227405312 ∧ Ieee.double.leastPlace = -1074 ∧ Ieee.double.fractionBits = 52 := by decide +kernel

theorem nearest_rung (f : Ieee.Format) (s : Bool) (m : Nat) (e : Int) : ∃ r, f.nearest s m e = f.word s r ∧ r ≤ f.infRung := by
  unfold Ieee.Format.nearest
  dsimp only
  split
  · exact ⟨0, rfl, Nat.zero_le _⟩
  · exact ⟨_, rfl, Nat.min_le_right ..⟩

theorem cut_zero (n : Nat) (s : Bool) : Ieee.Toward.even.cut s n 0 = n := by
  unfold Ieee.Toward.cut
  have : min 0 (n.log2 + 2) = 0 := by omega
  simp [this, Nat.mod_one]

theorem read_word_small {f : Ieee.Format} {s : Bool} {r : Nat} (h : r < f.infRung) : (f.read (f.word s r)).isInfinity = false := by
  have hsw := f.infRung_lt
  have hr : f.word s r % f.signWeight = r := by
    unfold Ieee.Format.word
    split
    · rw [Nat.add_mod_left, Nat.mod_eq_of_lt (by omega)]
    · rw [Nat.mod_eq_of_lt (by omega)]
  unfold Ieee.Format.read
  simp only [hr]
  split
  · rfl
  · first | rfl | (rw [if_pos h]; rfl)

theorem nearest_double_small {s : Bool} {m : Nat} {e : Int} (hm : m < 16777216) (h0 : -149 ≤ e) (h1 : e ≤ 104) : (Ieee.double.read (Ieee.double.nearest s m e)).isInfinity = false := by
  obtain ⟨e1, e2, e3, e4, e5⟩ := double_facts
  unfold Ieee.Format.nearest
  split
  · exact read_word_small (by rw [e3]; omega)
  · rename_i hne
    dsimp only
    have hl : m.log2 < 24 := (Nat.log2_lt hne).2 (by omega)
    rw [e4, e5]
    have hlast : max (e + (m.log2 : Int) - (52 : Nat)) (-1074) = e + (m.log2 : Int) - 52 := by omega
    rw [hlast]
    have hd : ((e + (m.log2 : Int) - 52) - e).toNat = 0 := by omega
    have hs : (e - (e + (m.log2 : Int) - 52)).toNat = 52 - m.log2 := by omega
    rw [hd, hs, cut_zero, Nat.shiftLeft_eq]
    have hp : m * 2 ^ (52 - m.log2) < 2 ^ 53 := by
      have h2 : m < 2 ^ (m.log2 + 1) := Nat.lt_log2_self
      calc m * 2 ^ (52 - m.log2) < 2 ^ (m.log2 + 1) * 2 ^ (52 - m.log2) := Nat.mul_lt_mul_of_pos_right h2 (Nat.two_pow_pos _)
        _ = 2 ^ 53 := by rw [← Nat.pow_add]; congr 1; omega
    generalize m * 2 ^ (52 - m.log2) = q at hp
    refine read_word_small (Nat.lt_of_le_of_lt (Nat.min_le_left ..) ?_)
    rw [e2, e3]
    have : ((e + (m.log2 : Int) - 52) - -1074).toNat ≤ 1149 := by omega
    generalize ((e + (m.log2 : Int) - 52) - -1074).toNat = z at this
    have h53 : (2 : Nat) ^ 53 = 9007199254740992 := by decide
    omega

theorem fits_widen (x : Nat) : fits .f32 .f64 x = true := by
  obtain ⟨e1, e2, e3, e4⟩ := single_facts
  unfold fits
  by_cases hn : isN .f32 x = true
  · simp [hn]
  · have hn : isN .f32 x = false := by simpa using hn
    rw [hn, Bool.false_or]
    unfold floatToFloatBits
    rw [if_neg (by decide)]
    have hsp : FloatKind.f32.decode x = Ieee.single.read x := rfl
    rw [hsp]
    cases hd : Ieee.single.read x with
    | nan s f => exfalso; unfold isN at hn; rw [hsp, hd] at hn; simp [Ieee.Datum.isNaN] at hn
    | infinity s => rfl
    | number s m e =>
      have hb : m < 16777216 ∧ -149 ≤ e ∧ e ≤ 104 := by
        unfold Ieee.Format.read at hd
        simp only [e1, e2, e3, e4] at hd
        split at hd
        · cases hd; exact ⟨by omega, by omega, by omega⟩
        · split at hd
          · cases hd; exact ⟨by omega, by omega, by omega⟩
          · split at hd <;> cases hd
      have := nearest_double_small (s := s) hb.1 hb.2.1 hb.2.2
      show (if (Ieee.double.read (Ieee.double.nearest s m e)).isInfinity = true then none else some _).isSome = true
      rw [this]; rfl

end Go.Proofs.Ytklonahkacikbaa

/- Complex numbers of two float32, up to the bits of a NaN: sums, products, quotients, lengths, of the program and of the reference. Conditions: what is narrowed fits float32. -/
namespace Go.Proofs.Ytklonahkacikbaa
set_option linter.unusedSimpArgs false
set_option linter.unusedVariables false
open Go Go.RowKit

/-- The words of a complex number. -/
abbrev C2 := Nat × Nat
def nc (z : C2) : C2 := (nrm .f32 z.1, nrm .f32 z.2)
def cxv (z : C2) : Value := .complex .f32 z.1 z.2
theorem nc_nc (z : C2) : nc (nc z) = nc z := by simp [nc, nrm_nrm]

/-- A float32 as a float64; and back. -/
def wd (x : Nat) : Nat := nrm .f64 (fcvt .f32 .f64 x)
def nw (x : Nat) : Nat := nrm .f32 (fcvt .f64 .f32 x)
def fit1 (x : Nat) : Prop := fits .f64 .f32 x = true
abbrev fit2 (p : Nat × Nat) : Prop := fit1 p.1 ∧ fit1 p.2

def addC (x y : C2) : C2 := (fop .add .f32 x.1 y.1, fop .add .f32 x.2 y.2)
def subC (x y : C2) : C2 := (fop .sub .f32 x.1 y.1, fop .sub .f32 x.2 y.2)
def scaleC (x : C2) (b : Nat) : C2 := (fop .mul .f32 x.1 b, fop .mul .f32 x.2 b)
def timesF (x y : C2) : Nat × Nat :=
  (fop .sub .f64 (fop .mul .f64 (wd x.1) (wd y.1)) (fop .mul .f64 (wd x.2) (wd y.2)), fop .add .f64 (fop .mul .f64 (wd x.1) (wd y.2)) (fop .mul .f64 (wd x.2) (wd y.1)))
def mulC (x y : C2) : C2 := (nw (timesF x y).1, nw (timesF x y).2)
def powerF (x : C2) : Nat := fop .add .f64 (fop .mul .f64 (wd x.1) (wd x.1)) (fop .mul .f64 (wd x.2) (wd x.2))
def negF (x : Nat) : Nat := nrm .f32 (Op.negFloat .f32 x)
def conjC (x : C2) : C2 := (x.1, negF x.2)
def quoF (x y : C2) : Nat × Nat := (fop .quo .f64 (timesF x (conjC y)).1 (powerF y), fop .quo .f64 (timesF x (conjC y)).2 (powerF y))
def quoC (x y : C2) : C2 := (nw (quoF x y).1, nw (quoF x y).2)
def sqF (x : Nat) : Nat := nrm .f64 ((FloatKind.f64.format.sqrt x).getD (qnan .f64))
def longF (x : C2) : Nat := nw (sqF (powerF x))

@[go_sem] theorem unary_negf (k : FloatKind) (b : Nat) : Op.unary .neg (.float k b) = pure (.float k (Op.negFloat k b)) := rfl
theorem isN_neg (x : Nat) : isN .f32 (Op.negFloat .f32 x) = isN .f32 x := by
  have h : (Op.negFloat .f32 x) % 2147483648 = x % 2147483648 := by
    have h2 : (Op.negFloat .f32 x) = x ^^^ 2 ^ 31 := rfl
    rw [h2, show (2147483648 : Nat) = 2 ^ 31 from rfl, Nat.xor_mod_two_pow, Nat.mod_self, Nat.xor_zero]
  have e1 : Ieee.single.signWeight = 2147483648 := single_facts.1
  have key : ∀ y : Nat, (Ieee.single.read y).isNaN = decide (Ieee.single.infRung < y % 2147483648) := by
    intro y
    unfold Ieee.Format.read
    simp only [e1]
    have e2 := single_facts.2.1
    have e3 := single_facts.2.2.1
    split
    · rename_i h; symm; simp only [Ieee.Datum.isNaN, decide_eq_false_iff_not]; rw [e2] at h; rw [e3]; omega
    · split
      · rename_i h; symm; simp only [Ieee.Datum.isNaN, decide_eq_false_iff_not]; rw [e3] at h ⊢; omega
      · split
        · rename_i h; symm; simp only [Ieee.Datum.isNaN, decide_eq_false_iff_not]; omega
        · rename_i h1 h2 h3; symm; simp only [Ieee.Datum.isNaN, decide_eq_true_eq]; omega
  show (Ieee.single.read _).isNaN = (Ieee.single.read _).isNaN
  rw [key, key, h]
theorem nrm_neg (x : Nat) : nrm .f32 (Op.negFloat .f32 x) = negF (nrm .f32 x) := by
  unfold negF
  by_cases h : isN .f32 x = true
  · rw [nrm_of_nan h, nrm_of_nan (by rw [isN_neg]; exact h), nrm_of_nan (by rw [isN_neg]; exact isN_qnan _)]
  · rw [nrm_of_not (by simpa using h : isN .f32 x = false)]

section
variable {ops : Array Oper} {rest : List Oper} {o : Oper} {a : Act} {Q : Exit → Act → World → Prop} {w : World}
theorem wpList_wid (hgd : o.guard = none) (X : Operand) (ho : o.op = .convert 34 37 X) (x : Nat) (hx : a.eval X = .float .f32 x)
    (h : ∀ r n, nrm .f64 r = wd (nrm .f32 x) → wpList Try.prog ops Q rest (a.put o.dst (.float .f64 r)) (w.drewN n)) : wpList Try.prog ops Q (o :: rest) a w :=
  wpList_fcvtg 34 37 X ho .f32 .f64 x (by rw [Try.underlying34]; rfl) Try.underlying37 hx (fits_widen _) (by simp [Region.wanted, hgd]) h
theorem wpList_nar (hgd : o.guard = none) (X : Operand) (ho : o.op = .convert 37 34 X) (x : Nat) (hx : a.eval X = .float .f64 x) (hf : fit1 (nrm .f64 x))
    (h : ∀ r n, nrm .f32 r = nw (nrm .f64 x) → wpList Try.prog ops Q rest (a.put o.dst (.float .f32 r)) (w.drewN n)) : wpList Try.prog ops Q (o :: rest) a w :=
  wpList_fcvtg 37 34 X ho .f64 .f32 x (by rw [Try.underlying37]; rfl) Try.underlying34 hx hf (by simp [Region.wanted, hgd]) h
end

/-- A complex number. -/
def RetX (F : C2) (w : World) (e : Ending) (w' : World) : Prop := ∃ a b m, e = .returned (.complex .f32 a b) ∧ nrm .f32 a = F.1 ∧ nrm .f32 b = F.2 ∧ w' = w.drewN m
/-- A complex number of two float64. -/
def RetX64 (F : Nat × Nat) (w : World) (e : Ending) (w' : World) : Prop := ∃ a b m, e = .returned (.complex .f64 a b) ∧ nrm .f64 a = F.1 ∧ nrm .f64 b = F.2 ∧ w' = w.drewN m
def RetF32 (F : Nat) (w : World) (e : Ending) (w' : World) : Prop := ∃ a m, e = .returned (.float .f32 a) ∧ nrm .f32 a = F ∧ w' = w.drewN m
def RetF64 (F : Nat) (w : World) (e : Ending) (w' : World) : Prop := ∃ a m, e = .returned (.float .f64 a) ∧ nrm .f64 a = F ∧ w' = w.drewN m
/-- Two float64. -/
def Ret64s (F : Nat × Nat) (w : World) (e : Ending) (w' : World) : Prop := ∃ a b m, e = .returned (.tuple #[.float .f64 a, .float .f64 b]) ∧ nrm .f64 a = F.1 ∧ nrm .f64 b = F.2 ∧ w' = w.drewN m

set_option maxRecDepth 100000 in
theorem minus_impl (x y : C2) (w : World) : Calls Try.prog 27 #[.complex .f32 x.1 x.2, .complex .f32 y.1 y.2] w (RetX (subC (nc x) (nc y)) w) := by
  go_enter Try.func27, Try.ntmps27
  go_wp2_with (first | (with_reducible refine wpList_fop rfl _ _ _ _ _ rfl rfl .f32 _ _ rfl rfl ?_; intro r m hr))
  go_ret
  exact ⟨_, _, _, rfl, by simp only [nc, subC, *], by simp only [nc, subC, *], by first | rfl | (simp; rfl)⟩

set_option maxRecDepth 100000 in
theorem plus_impl (x y : C2) (w : World) : Calls Try.prog 29 #[.complex .f32 x.1 x.2, .complex .f32 y.1 y.2] w (RetX (addC (nc x) (nc y)) w) := by
  go_enter Try.func29, Try.ntmps29
  go_wp2_with (first | (with_reducible refine wpList_fop rfl _ _ _ _ _ rfl rfl .f32 _ _ rfl rfl ?_; intro r m hr))
  go_ret
  exact ⟨_, _, _, rfl, by simp only [nc, addC, *], by simp only [nc, addC, *], by first | rfl | (simp; rfl)⟩

set_option maxRecDepth 100000 in
theorem scale_impl (x : C2) (b : Nat) (w : World) : Calls Try.prog 30 #[.complex .f32 x.1 x.2, .float .f32 b] w (RetX (scaleC (nc x) (nrm .f32 b)) w) := by
  go_enter Try.func30, Try.ntmps30
  go_wp2_with (first | (with_reducible refine wpList_fop rfl _ _ _ _ _ rfl rfl .f32 _ _ rfl rfl ?_; intro r m hr))
  go_ret
  exact ⟨_, _, _, rfl, by simp only [nc, scaleC, *], by simp only [nc, scaleC, *], by first | rfl | (simp; rfl)⟩

set_option maxRecDepth 100000 in
theorem conj_impl (x : C2) (w : World) : Calls Try.prog 56 #[.complex .f32 x.1 x.2] w (RetX (conjC (nc x)) w) := by
  go_enter Try.func56, Try.ntmps56
  go_wp2_with (first | fail)
  go_ret
  exact ⟨_, _, 0, rfl, rfl, by simp only [nc, conjC, nrm_neg], rfl⟩

set_option maxRecDepth 100000 in
theorem conj_spec (x : C2) (w : World) : Calls Try.prog 99 #[.complex .f32 x.1 x.2] w (RetX (conjC (nc x)) w) := by
  go_enter Try.func99, Try.ntmps99
  go_wp2_with (first | fail)
  go_ret
  exact ⟨_, _, 0, rfl, rfl, by simp only [nc, conjC, nrm_neg], rfl⟩

set_option maxRecDepth 100000 in
theorem power_impl (x : C2) (w : World) : Calls Try.prog 57 #[.complex .f32 x.1 x.2] w (RetF64 (powerF (nc x)) w) := by
  go_enter Try.func57, Try.ntmps57
  go_wp2_with (first | (with_reducible refine wpList_wid rfl _ rfl _ rfl ?_; intro r m hr) | (with_reducible refine wpList_fop rfl _ _ _ _ _ rfl rfl .f64 _ _ rfl rfl ?_; intro r m hr))
  go_ret
  exact ⟨_, _, rfl, by simp only [nc, powerF, *], by first | rfl | (simp; rfl)⟩

set_option maxRecDepth 100000 in
theorem power_spec (x : C2) (w : World) : Calls Try.prog 100 #[.complex .f32 x.1 x.2] w (RetF64 (powerF (nc x)) w) := by
  go_enter Try.func100, Try.ntmps100
  go_wp2_with (first | (with_reducible refine wpList_wid rfl _ rfl _ rfl ?_; intro r m hr) | (with_reducible refine wpList_fop rfl _ _ _ _ _ rfl rfl .f64 _ _ rfl rfl ?_; intro r m hr))
  go_ret
  exact ⟨_, _, rfl, by simp only [nc, powerF, *], by first | rfl | (simp; rfl)⟩

set_option maxRecDepth 100000 in
theorem times_impl (x y : C2) (w : World) : Calls Try.prog 55 #[.complex .f32 x.1 x.2, .complex .f32 y.1 y.2] w (Ret64s (timesF (nc x) (nc y)) w) := by
  go_enter Try.func55, Try.ntmps55
  go_wp2_with (first | (with_reducible refine wpList_wid rfl _ rfl _ rfl ?_; intro r m hr) | (with_reducible refine wpList_fop rfl _ _ _ _ _ rfl rfl .f64 _ _ rfl rfl ?_; intro r m hr))
  go_ret2
  exact ⟨_, _, _, rfl, by simp only [nc, timesF, *], by simp only [nc, timesF, *], by first | rfl | (simp; rfl)⟩

set_option maxRecDepth 100000 in
theorem wide_spec (x : C2) (w : World) : Calls Try.prog 67 #[.complex .f32 x.1 x.2] w (RetX64 (wd (nrm .f32 x.1), wd (nrm .f32 x.2)) w) := by
  go_enter Try.func67, Try.ntmps67
  go_wp2_with (first | (with_reducible refine wpList_wid rfl _ rfl _ rfl ?_; intro r m hr))
  go_ret
  exact ⟨_, _, _, rfl, by simp only [*], by simp only [*], by first | rfl | (simp; rfl)⟩

set_option maxRecDepth 100000 in
theorem wideMul_spec (a b p q : Nat) (x y : C2) (ha : nrm .f64 a = wd x.1) (hb : nrm .f64 b = wd x.2) (hp : nrm .f64 p = wd y.1) (hq : nrm .f64 q = wd y.2) (w : World) : Calls Try.prog 66 #[.complex .f64 a b, .complex .f64 p q] w (RetX64 (timesF x y) w) := by
  go_enter Try.func66, Try.ntmps66
  go_wp2_with (with_reducible refine wpList_fop rfl _ _ _ _ _ rfl rfl .f64 _ _ rfl rfl ?_; intro r m hr)
  go_ret
  exact ⟨_, _, _, rfl, by simp only [timesF, *], by simp only [timesF, *], by first | rfl | (simp; rfl)⟩
set_option maxRecDepth 100000 in
theorem narrow_spec (x : Nat) (Hf : RowKit.Hid (fit1 (nrm .f64 x))) (w : World) : Calls Try.prog 81 #[.float .f64 x] w (RetF32 (nw (nrm .f64 x)) w) := by
  go_enter Try.func81, Try.ntmps81
  go_wp2_with (with_reducible refine wpList_nar rfl _ rfl _ rfl Hf.out ?_; intro r m hr)
  go_ret
  exact ⟨_, _, rfl, hr, rfl⟩
set_option maxRecDepth 100000 in
theorem cnarrow_spec (x y : Nat) (Hf : RowKit.Hid (fit2 (nrm .f64 x, nrm .f64 y))) (w : World) : Calls Try.prog 65 #[.complex .f64 x y] w (RetX (nw (nrm .f64 x), nw (nrm .f64 y)) w) := by
  go_enter Try.func65, Try.ntmps65
  go_wp2_with (go_at_call 81; go_must (refine (narrow_spec _ (Lib.hid (by first | exact Hf.out.1 | exact Hf.out.2)) _).mono ?_); rintro e w' ⟨r, m, rfl, hr, rfl⟩)
  go_ret
  exact ⟨_, _, _, rfl, by simp only [*], by simp only [*], by first | rfl | (simp; rfl)⟩
set_option maxRecDepth 100000 in
theorem mul_impl (x y : C2) (Hf : RowKit.Hid (fit2 (timesF (nc x) (nc y)))) (w : World) : Calls Try.prog 74 #[.complex .f32 x.1 x.2, .complex .f32 y.1 y.2] w (RetX (mulC (nc x) (nc y)) w) := by
  go_enter Try.func74, Try.ntmps74
  go_wp2_with (first | (go_at_call 55; go_must (refine (times_impl x y _).mono ?_); rintro e w' ⟨a, b, m, rfl, ha, hb, rfl⟩) | (with_reducible refine wpList_nar rfl _ rfl _ rfl (by simp only [*]; first | exact Hf.out.1 | exact Hf.out.2 | exact Hf.out) ?_; intro r m hr))
  go_ret
  exact ⟨_, _, _, rfl, by simp only [mulC, *], by simp only [mulC, *], by first | rfl | (simp; rfl)⟩

set_option maxRecDepth 100000 in
theorem mul_spec (x y : C2) (Hf : RowKit.Hid (fit2 (timesF (nc x) (nc y)))) (w : World) : Calls Try.prog 47 #[.complex .f32 x.1 x.2, .complex .f32 y.1 y.2] w (RetX (mulC (nc x) (nc y)) w) := by
  go_enter Try.func47, Try.ntmps47
  go_wp2_with fail
  refine (wide_spec x _).mono ?_
  rintro e w' ⟨a, b, m, rfl, ha, hb, rfl⟩
  go_wp2_with fail
  refine (wide_spec y _).mono ?_
  rintro e w' ⟨p, q, m2, rfl, hp, hq, rfl⟩
  go_wp2_with fail
  refine (wideMul_spec a b p q (nc x) (nc y) ha hb hp hq _).mono ?_
  rintro e w' ⟨c, d, m3, rfl, hc, hd, rfl⟩
  go_wp2_with fail
  refine (cnarrow_spec c d (Lib.hid (by rw [hc, hd]; exact Hf.out)) _).mono ?_
  rintro e w' ⟨r, s, m4, rfl, hr, hs, rfl⟩
  rw [hc] at hr
  rw [hd] at hs
  go_wp2_with fail
  go_ret
  exact ⟨_, _, _, rfl, hr, hs, by first | rfl | (simp; rfl)⟩

set_option maxRecDepth 100000 in
set_option maxHeartbeats 1000000 in
theorem quo_impl (x y : C2) (Hf : RowKit.Hid (fit1 (fop .quo .f64 (timesF (nc x) (conjC (nc y))).1 (powerF (nc y))) ∧ fit1 (fop .quo .f64 (timesF (nc x) (conjC (nc y))).2 (powerF (nc y))))) (w : World) : Calls Try.prog 32 #[.complex .f32 x.1 x.2, .complex .f32 y.1 y.2] w (RetX (quoC (nc x) (nc y)) w) := by
  go_enter Try.func32, Try.ntmps32
  go_wp2_with fail
  refine (conj_impl y _).mono ?_
  rintro e w' ⟨p, q, m, rfl, hp, hq, rfl⟩
  have hpq : nc (p, q) = conjC (nc y) := by simp only [nc] at hp hq ⊢; rw [hp, hq]
  clear hp hq
  go_wp2_with fail
  refine (times_impl x (p, q) _).mono ?_
  rw [hpq]
  rintro e w' ⟨a, b, m2, rfl, ha, hb, rfl⟩
  clear hpq
  go_wp2_with fail
  refine (power_impl y _).mono ?_
  rintro e w' ⟨c, m3, rfl, hc, rfl⟩
  go_wp2_with (first | (with_reducible refine wpList_fop rfl _ _ _ _ _ rfl rfl .f64 _ _ rfl rfl ?_; intro r m hr) | (with_reducible refine wpList_nar rfl _ rfl _ rfl (by simp only [*]; first | exact Hf.out.1 | exact Hf.out.2) ?_; intro r m hr))
  go_ret
  exact ⟨_, _, _, rfl, by simp only [quoC, quoF, *], by simp only [quoC, quoF, *], by first | rfl | (simp; rfl)⟩

set_option maxRecDepth 100000 in
set_option maxHeartbeats 1000000 in
theorem quo_spec (x y : C2) (Hf : RowKit.Hid (fit1 (fop .quo .f64 (timesF (nc x) (conjC (nc y))).1 (powerF (nc y))) ∧ fit1 (fop .quo .f64 (timesF (nc x) (conjC (nc y))).2 (powerF (nc y))))) (w : World) : Calls Try.prog 91 #[.complex .f32 x.1 x.2, .complex .f32 y.1 y.2] w (RetX (quoC (nc x) (nc y)) w) := by
  go_enter Try.func91, Try.ntmps91
  go_wp2_with fail
  refine (wide_spec x _).mono ?_
  rintro e w' ⟨a, b, m, rfl, ha, hb, rfl⟩
  go_wp2_with fail
  refine (conj_spec y _).mono ?_
  rintro e w' ⟨p, q, m1, rfl, hp, hq, rfl⟩
  go_wp2_with fail
  refine (wide_spec (p, q) _).mono ?_
  rintro e w' ⟨u, v, m2, rfl, hu, hv, rfl⟩
  rw [hp] at hu
  rw [hq] at hv
  clear hp hq
  go_wp2_with fail
  refine (wideMul_spec a b u v (nc x) (conjC (nc y)) ha hb hu hv _).mono ?_
  rintro e w' ⟨c, d, m3, rfl, hc, hd, rfl⟩
  clear ha hb hu hv
  go_wp2_with fail
  refine (power_spec y _).mono ?_
  rintro e w' ⟨g, m4, rfl, hg, rfl⟩
  go_wp2_with (first | (with_reducible refine wpList_fop rfl _ _ _ _ _ rfl rfl .f64 _ _ rfl rfl ?_; intro r m hr) | (go_at_call 81; go_must (refine (narrow_spec _ (Lib.hid (by simp only [*]; first | exact Hf.out.1 | exact Hf.out.2)) _).mono ?_); rintro e w' ⟨r, m, rfl, hr, rfl⟩))
  go_ret
  exact ⟨_, _, _, rfl, by simp only [quoC, quoF, *], by simp only [quoC, quoF, *], by first | rfl | (simp; rfl)⟩


end Go.Proofs.Ytklonahkacikbaa

/- The length of a complex number, of the program and of the reference. Conditions: the root fits float32. -/
namespace Go.Proofs.Ytklonahkacikbaa
set_option linter.unusedSimpArgs false
set_option linter.unusedVariables false
open Go Go.RowKit

theorem sqrt_nrm (x : Nat) : FloatKind.f64.format.sqrt (nrm .f64 x) = FloatKind.f64.format.sqrt x := by
  by_cases h : isN .f64 x = true
  · obtain ⟨s, f, e⟩ := isNaN_cases _ h
    obtain ⟨s2, f2, e2⟩ := isNaN_cases _ (isN_nrm .f64 x ▸ h)
    have e' : FloatKind.f64.format.read x = .nan s f := e
    have e2' : FloatKind.f64.format.read (nrm .f64 x) = .nan s2 f2 := e2
    simp [Ieee.Format.sqrt, e', e2', Ieee.Datum.root]
  · rw [nrm_of_not (by simpa using h)]

theorem sqrt_eq (x : Nat) : Extern.MathSqrt.sqrt #[.float .f64 x] = (match FloatKind.f64.format.sqrt x with | some r => pure (.float .f64 r) | none => do pure (.float .f64 (← choose (.nanBits .f64 x x)))) := rfl
theorem run_sqrt (x : Nat) (w : World) : ∃ r n, (callFunc 89 #[.float .f64 x]).run Try.prog w = .ok (.value (.float .f64 r)) (w.drewN n) ∧ nrm .f64 r = sqF (nrm .f64 x) := by
  rw [run_callFunc_extern (e := Extern.MathSqrt.sqrt) Try.func89 (by kernel_rfl) (by kernel_rfl) (by kernel_rfl) (by kernel_rfl)]
  unfold sqF
  rw [sqrt_nrm]
  cases h : FloatKind.f64.format.sqrt x with
  | some r => exact ⟨r, 0, by simp [sqrt_eq, h, Result.andThen, World.drewN_zero], by simp⟩
  | none =>
    have hc := choose_nan_f32 .f64 x x (w.tape w.drawn (.nanBits .f64 x x))
    refine ⟨Question.cut (.nanBits .f64 x x) (w.tape w.drawn (.nanBits .f64 x x)), 1, ?_, ?_⟩
    · simp [sqrt_eq, h, Result.andThen, Question.forced, World.drew_is_drewN]
    · simp [nrm_qnan, nrm_of_nan hc]

set_option maxRecDepth 100000 in
theorem sqrt_lib (x : Nat) (w : World) : Calls Try.prog 78 #[.float .f64 x] w (RetF64 (sqF (nrm .f64 x)) w) := by
  obtain ⟨r, n, hrun, hr⟩ := run_sqrt x w
  have Hr := Lib.hid hr
  clear hr
  go_enter Try.func78, Try.ntmps78
  go_wp2
  go_ret
  exact ⟨_, _, rfl, Hr.out, rfl⟩

end Go.Proofs.Ytklonahkacikbaa
