/- A row of the call's own that grows beside younger blocks. Conditions: none. -/
import Derived.Test.YtlnjkjogedbhfaaI36
import Derived.Test.YtlnjkjogedbhfaaI23
namespace Go.Proofs.Ytlnjkjogedbhfaa
open Go Go.RowKit
set_option linter.unusedSimpArgs false
set_option linter.unusedVariables false

/-- A row whose block was g0 in W; all other blocks of W are as they were. -/
def RowZ (W : World) (g0 : Nat) (wr : World) (v : Value) (zs : List Int) : Prop := RowI wr g0 v zs ∧ Only g0 (g0 + 1) W wr ∧ ∀ k, v.ownBlock = some k → k = g0 ∨ W.heap.size ≤ k
theorem RowZ.row {W wr : World} {g0 : Nat} {v : Value} {zs : List Int} (h : RowZ W g0 wr v zs) : RowI wr g0 v zs := h.1
theorem RowZ.only {W wr : World} {g0 : Nat} {v : Value} {zs : List Int} (h : RowZ W g0 wr v zs) : Only g0 (g0 + 1) W wr := h.2.1
theorem RowZ.below {W wr w' : World} {g0 : Nat} {v : Value} {zs : List Int} (h : RowZ W g0 wr v zs) (hb : Below wr.heap.size wr w') : RowZ W g0 w' v zs := ⟨h.1.below hb, ⟨hb.os.trans h.2.1.os, hb.tape.trans h.2.1.tape, hb.output.trans h.2.1.output, Nat.le_trans h.2.1.size hb.size, fun k hk hd => (hb.block k (Nat.lt_of_lt_of_le hk h.2.1.size)).trans (h.2.1.block k hk hd)⟩, h.2.2⟩
theorem RowZ.start {W : World} {g0 n c : Nat} {zs : List Int} (h : RowI W g0 (.slice (some ⟨g0, 0, none⟩) n c) zs) : RowZ W g0 W (.slice (some ⟨g0, 0, none⟩) n c) zs := ⟨h, Only.refl _ _ _, fun k hk => .inl (by simp only [Value.ownBlock, Option.some.injEq] at hk; exact hk.symm)⟩
theorem RowZ.block {W wr : World} {g0 k : Nat} {v : Value} {zs : List Int} (h : RowZ W g0 wr v zs) (hk : k < W.heap.size) (hn : k ≠ g0) : wr.heap[k]? = W.heap[k]? := h.2.1.block k hk (by omega)
theorem RowZ.cell {W wr : World} {g0 k : Nat} {v : Value} {zs : List Int} (h : RowZ W g0 wr v zs) (hk : k < W.heap.size) (hn : k ≠ g0) : wr.cell? ⟨k, 0, none⟩ = W.cell? ⟨k, 0, none⟩ := World.cell?_of_block (w := W) (h.block hk hn)
theorem RowZ.frozen {W wr : World} {g0 k : Nat} {v : Value} {zs : List Int} (h : RowZ W g0 wr v zs) (hk : k < W.heap.size) (hn : k ≠ g0) : wr.frozen? ⟨k, 0, none⟩ = W.frozen? ⟨k, 0, none⟩ := World.frozen?_of_block (w := W) (h.block hk hn)
theorem RowZ.size {W wr : World} {g0 : Nat} {v : Value} {zs : List Int} (h : RowZ W g0 wr v zs) : W.heap.size ≤ wr.heap.size := h.2.1.size
/-- What is read in W, in no block g0. -/
def RdZ (W : World) (g0 : Nat) (v : Value) (zs : List Int) : Prop := RdI W v zs ∧ ∀ p n c, v = .slice (some p) n c → p.block < W.heap.size ∧ p.block ≠ g0
theorem RdZ.rd {W wr : World} {g0 : Nat} {v u : Value} {xs zs : List Int} (h : RdZ W g0 v xs) (hr : RowZ W g0 wr u zs) : RdI wr v xs := by
  obtain ⟨⟨ao, cp, rfl, hcp, hx⟩, h2⟩ := h
  refine ⟨ao, cp, rfl, hcp, ?_⟩
  rcases hx with hx | ⟨b, off, rfl, hc⟩
  · exact .inl hx
  · have h3 := h2 _ _ _ rfl
    exact .inr ⟨b, off, rfl, fun i hi => by rw [World.cell?_of_block (w := W) (a := ⟨b, off + i, none⟩) (hr.block h3.1 h3.2)]; exact hc i hi⟩
theorem RdZ.ofOld {w W : World} {g0 : Nat} {v : Value} {zs : List Int} (h : RdI w v zs) (hn : zs ≠ []) (hb : Below w.heap.size w W) (hg : w.heap.size ≤ g0) : RdZ W g0 v zs := by
  obtain ⟨b, off, cap, rfl, hlt, hc⟩ := h.open hn
  refine ⟨h.below hb, fun p n c hv => ?_⟩
  have hs := hb.size
  simp only [Value.slice.injEq, Option.some.injEq] at hv
  rw [← hv.1]
  exact ⟨by simp only; omega, by simp only; omega⟩
theorem RdZ.ofOwn {w W : World} {B g0 : Nat} {v : Value} {zs : List Int} (h : OwI w B v zs) (hn : zs ≠ []) (hb : Below w.heap.size w W) (hg : g0 < B) : RdZ W g0 v zs := by
  obtain ⟨g, cap, rfl, hB, hlt, _⟩ := h.open hn
  refine ⟨h.rd.below hb, fun p n c hv => ?_⟩
  have hs := hb.size
  simp only [Value.slice.injEq, Option.some.injEq] at hv
  rw [← hv.1]
  exact ⟨by simp only; omega, by simp only; omega⟩
section
variable {ops : Array Oper} {o : Oper} {a : Act} {K : Act → World → Prop} {Q : Exit → Act → World → Prop} {E : Prop}
theorem step_pushZ {t : TypeId} {W w : World} {g0 : Nat} {v : Value} {zs : List Int} {y : Int} (hgd : o.guard = none) (s x : Operand) (ho : o.op = .call { callee := .builtin .append, args := #[s, x], argTypes := #[t, t] })
    (ht : Try.prog.underlying t = some (.slice 2)) (hown : RowZ W g0 w v zs) (hl : zs.length ≤ 1099511627776) (hB : g0 ≤ w.heap.size)
    (hs : a.eval s = v) (g : Nat) (hx : a.eval x = .slice (some ⟨g, 0, none⟩) 1 1) (hc : w.cell? ⟨g, 0, none⟩ = some (.int .i64 y))
    (h : ∀ v' w', RowZ W g0 w' v' (zs ++ [y]) → (∀ k, k < W.heap.size → k ≠ g0 → w'.heap[k]? = w.heap[k]?) → K (a.put o.dst v') w') :
    if Region.wanted o (yielded ops a.tmps) = true then Oper.wp Try.prog o a w K Q else E := by
  have hi2 := info2
  cases hi : Try.prog.info? 2 with
  | none => rw [hi] at hi2; cases hi2
  | some i =>
  rw [hi] at hi2
  simp only [Option.map_some, Option.some.injEq, Prod.mk.injEq] at hi2
  have hown1 := hown.1
  have hsz := hown.size
  refine step_append_lies w hgd s x t ho g0 2 i (.int .i64 0) 1 8 ht hi hi2.1 hi2.2.1 hi2.2.2 rfl (by decide) v zs.length (cellsI zs) hs hown1 ⟨g, 0, none⟩ 1 1 [.int .i64 y] hx (by simp) ?_ ?_ (by decide) (by unfold maxLen; omega) (by omega) hB w.heap.size rfl ?_
  · intro j u hj
    cases j with
    | zero => simp only [List.getElem?_cons_zero, Option.some.injEq] at hj; subst hj; simpa [Addr.add] using hc
    | succ j => simp at hj
  · intro u hu; simp only [List.mem_singleton] at hu; subst hu; rfl
  · intro g' cap w1 hown2 hgrow hat hlt
    have hk9 : ∀ k, k < W.heap.size → k ≠ g0 → w1.heap[k]? = w.heap[k]? := fun k hk hn => hgrow.block k (by omega) (fun h9 => by
      rcases hown.2.2 k h9.symm with h8 | h8
      · exact hn h8
      · omega)
    refine h _ w1 ⟨by simpa [RowI, cellsI] using hown2, ⟨hgrow.os.trans hown.2.1.os, hgrow.tape.trans hown.2.1.tape, hgrow.output.trans hown.2.1.output, Nat.le_trans hsz hgrow.size, fun k hk hd => (hk9 k hk (by omega)).trans (hown.2.1.block k hk hd)⟩, fun k hk => ?_⟩ hk9
    simp only [Value.ownBlock, Option.some.injEq] at hk
    rcases hat with h9 | h9
    · exact hown.2.2 k (by rw [← hk]; exact h9)
    · right; omega
end
theorem RdI.blk {w w' : World} {v : Value} {zs : List Int} (h : RdI w v zs) (hb : ∀ p n c, v = .slice (some p) n c → w'.heap[p.block]? = w.heap[p.block]?) : RdI w' v zs := by
  obtain ⟨ao, cp, rfl, hcp, hx⟩ := h
  refine ⟨ao, cp, rfl, hcp, ?_⟩
  rcases hx with hx | ⟨b, off, rfl, hc⟩
  · exact .inl hx
  · exact .inr ⟨b, off, rfl, fun i hi => by rw [World.cell?_of_block (w := w) (a := ⟨b, off + i, none⟩) (hb ⟨b, off, none⟩ _ _ rfl)]; exact hc i hi⟩
theorem RdI.one {w : World} {b : Nat} {z : Int} (h : w.cell? ⟨b, 0, none⟩ = some (.int .i64 z)) : RdI w (.slice (some ⟨b, 0, none⟩) 1 1) [z] :=
  ⟨some ⟨b, 0, none⟩, 1, rfl, ⟨Nat.le_refl _, by decide⟩, .inr ⟨b, 0, rfl, fun i hi => by
    obtain rfl : i = 0 := by simp at hi; exact hi
    exact h⟩⟩
theorem atZ_nat (zs : List Int) (k : Nat) : atZ zs (k : Int) = zs.getD k 0 := by
  unfold atZ
  split
  · simp
  · rename_i h
    simp only [List.getD]
    rw [List.getElem?_eq_none (by omega)]; rfl

theorem cellZ {w : World} {g k : Nat} {u : Value} (h : k ≠ g) : (w.setCell ⟨g, 0, none⟩ u).cell? ⟨k, 0, none⟩ = w.cell? ⟨k, 0, none⟩ := World.cell?_of_block (w := w) (Below.heap_setCell _ _ _ _ h)
end Go.Proofs.Ytlnjkjogedbhfaa
