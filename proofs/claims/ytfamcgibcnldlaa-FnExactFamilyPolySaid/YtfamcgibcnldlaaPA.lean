/- Lists of values of one cell each in memory: what reads as a list, what the call itself has made, and how it grows. Conditions: none. -/
import Derived.Test.YtfamcgibcnldlaaRow
import Derived.Test.YtfamcgibcnldlaaRuleOf
import Derived.Maps.AppendAt
import Derived.Laws.OwnMore
namespace Go.Proofs.Ytfamcgibcnldlaa
open Go Go.RowKit
set_option linter.unusedSimpArgs false
set_option linter.unusedVariables false

/-- A slice that reads as 'xs'. -/
def RdV (w : World) (v : Value) (xs : List Value) : Prop :=
  ∃ ao cap, v = .slice ao xs.length cap ∧ (xs.length ≤ cap ∧ cap ≤ maxLen) ∧ (xs = [] ∨ ∃ b off, ao = some ⟨b, off, none⟩ ∧ ∀ i, i < xs.length → w.cell? ⟨b, off + i, none⟩ = xs[i]?)

/-- A slice of the call's own: at the head of a block from 'B' on. -/
def OwV (e : TypeId) (w : World) (B : Nat) (v : Value) (xs : List Value) : Prop :=
  (v = .slice none 0 0 ∧ xs = []) ∨
  ∃ g cap cur, v = .slice (some ⟨g, 0, none⟩) xs.length cap ∧ B ≤ g ∧ w.heap[g]? = some (.cells cur e (0, 0)) ∧ xs.length ≤ cap ∧ cap ≤ cur.size ∧ cur.size ≤ maxLen ∧ cur.toList.take xs.length = xs

section
variable {e : TypeId} {w w' : World} {B B' : Nat} {v : Value} {xs : List Value}

theorem OwV.of_row {n : Nat} (h : w.ownsRow B e 1 v n xs) : OwV e w B v xs := by
  have hn : xs.length = n := by have := h.1; simpa using this
  rcases h.2 with ⟨hv, h0⟩ | ⟨g, cap, cur, hv, hb, hg, hle, hm, hs, ht⟩
  · exact .inl ⟨hv, by rw [h0] at hn; simpa using hn⟩
  · exact .inr ⟨g, cap, cur, by rw [hn]; exact hv, hb, hg, by omega, by omega, by omega, by rw [hn]; simpa using ht⟩

theorem take_get {cur ys : List Value} {i : Nat} (ht : cur.take ys.length = ys) (hi : i < ys.length) : cur[i]? = ys[i]? := by
  have := congrArg (·[i]?) ht
  simp only [List.getElem?_take, if_pos hi] at this
  exact this

theorem OwV.rd (h : OwV e w B v xs) : RdV w v xs := by
  rcases h with ⟨rfl, rfl⟩ | ⟨g, cap, cur, rfl, _, hg, h1, h2, hmx, ht⟩
  · exact ⟨none, 0, rfl, ⟨by simp, by simp [maxLen]⟩, .inl rfl⟩
  · refine ⟨_, cap, rfl, ⟨by omega, by omega⟩, .inr ⟨g, 0, rfl, fun i hi => ?_⟩⟩
    rw [Nat.zero_add, cell_of_row w g i cur _ (0, 0) hg]
    have := take_get ht hi
    simpa using this

theorem OwV.mono (h : OwV e w B v xs) (hb : B' ≤ B) : OwV e w B' v xs := by
  rcases h with h | ⟨g, cap, cur, h1, h2, h3⟩
  · exact .inl h
  · exact .inr ⟨g, cap, cur, h1, Nat.le_trans hb h2, h3⟩

theorem OwV.below (h : OwV e w B v xs) (hb : Below w.heap.size w w') : OwV e w' B v xs := by
  rcases h with h | ⟨g, cap, cur, h1, h2, h3, h4⟩
  · exact .inl h
  · exact .inr ⟨g, cap, cur, h1, h2, by rw [hb.block g (Array.getElem?_eq_some_iff.1 h3).1]; exact h3, h4⟩

theorem RdV.below (h : RdV w v xs) (hb : Below w.heap.size w w') : RdV w' v xs := by
  obtain ⟨ao, cap, hv, hcp, hr⟩ := h
  refine ⟨ao, cap, hv, hcp, ?_⟩
  rcases hr with hr | ⟨b, off, ha, hc⟩
  · exact .inl hr
  · refine .inr ⟨b, off, ha, fun i hi => ?_⟩
    have hs : w.cell? ⟨b, off + i, none⟩ = some xs[i] := by rw [hc i hi]; simp
    rw [hb.cell (World.block_lt_of_cell? w _ hs)]
    exact hc i hi
theorem RdV.alloc (h : RdV w v xs) (o : Obj) : RdV (w.alloc o) v xs := h.below ((Below.refl _ _).alloc (Nat.le_refl _) o)
theorem RdV.shape (h : RdV w v xs) : ∃ ao cap, v = .slice ao xs.length cap ∧ xs.length ≤ cap ∧ cap ≤ maxLen := by
  obtain ⟨ao, cap, rfl, h, _⟩ := h
  exact ⟨ao, cap, rfl, h⟩
theorem RdV.open (h : RdV w v xs) (hn : xs ≠ []) : ∃ b off cap, v = .slice (some ⟨b, off, none⟩) xs.length cap ∧ b < w.heap.size ∧ (xs.length ≤ cap ∧ cap ≤ maxLen) ∧ ∀ i, i < xs.length → w.cell? ⟨b, off + i, none⟩ = xs[i]? := by
  obtain ⟨ao, cap, rfl, hcp, hr⟩ := h
  rcases hr with hr | ⟨b, off, rfl, hc⟩
  · exact absurd hr hn
  · have h0 : 0 < xs.length := List.length_pos_iff.2 hn
    have hs : w.cell? ⟨b, off + 0, none⟩ = some xs[0] := by rw [hc 0 h0]; simp
    exact ⟨b, off, cap, rfl, World.block_lt_of_cell? w _ hs, hcp, hc⟩

/-- Cut at the front's end, with whatever capacity is left. -/
theorem OwV.take {g len cap : Nat} (h : OwV e w B (.slice (some ⟨g, 0, none⟩) len cap) xs) {n c : Nat} (hn : n ≤ xs.length) (h1 : n ≤ c) (h2 : c ≤ cap) : OwV e w B (.slice (some ⟨g, 0, none⟩) n c) (xs.take n) := by
  have hl : (xs.take n).length = n := by simp; omega
  rcases h with ⟨h, _⟩ | ⟨g', cap', cur, hv, hb, hg, h3, h4, h5, ht⟩
  · simp at h
  · simp only [Value.slice.injEq, Option.some.injEq, Addr.mk.injEq, and_true, true_and] at hv
    obtain ⟨rfl, rfl, rfl⟩ := hv
    refine .inr ⟨g, c, cur, by rw [hl], hb, hg, by omega, by omega, h5, ?_⟩
    rw [hl]
    conv => rhs; rw [← ht]
    rw [List.take_take, Nat.min_eq_left hn]

theorem RdV.take {b off len cap : Nat} (h : RdV w (.slice (some ⟨b, off, none⟩) len cap) xs) {n c : Nat} (hn : n ≤ xs.length) (hcn : n ≤ c) (hcm : c ≤ maxLen) : RdV w (.slice (some ⟨b, off, none⟩) n c) (xs.take n) := by
  have hl : (xs.take n).length = n := by simp; omega
  obtain ⟨ao, cap', hv, _, hr⟩ := h
  simp only [Value.slice.injEq] at hv
  obtain ⟨rfl, rfl, rfl⟩ := hv
  refine ⟨_, c, by rw [hl], ⟨by rw [hl]; exact hcn, hcm⟩, ?_⟩
  rcases hr with rfl | ⟨b', off', ha, hc⟩
  · left; simp
  · simp only [Option.some.injEq, Addr.mk.injEq, and_true] at ha
    obtain ⟨rfl, rfl⟩ := ha
    refine .inr ⟨b, off, rfl, fun i hi => ?_⟩
    rw [hl] at hi
    rw [hc i (by omega)]
    simp [List.getElem?_take, hi]

theorem OwV.open (h : OwV e w B v xs) (hn : xs ≠ []) : ∃ g cap, v = .slice (some ⟨g, 0, none⟩) xs.length cap ∧ B ≤ g ∧ g < w.heap.size ∧ xs.length ≤ cap ∧ cap ≤ maxLen ∧ (∀ j, j < xs.length → w.cell? ⟨g, j, none⟩ = xs[j]?) ∧ ∀ j, w.frozen? ⟨g, j, none⟩ = false := by
  rcases h with ⟨_, h⟩ | ⟨g, cap, cur, rfl, h2, hg, h3, h4, h5, ht⟩
  · exact absurd h hn
  · refine ⟨g, cap, rfl, h2, (Array.getElem?_eq_some_iff.1 hg).1, h3, by omega, fun j hj => ?_, fun j => by simp [World.frozen?, hg]⟩
    rw [cell_of_row w g j cur _ (0, 0) hg]
    have := take_get ht hj
    simpa using this

theorem OwV.set {g n cap : Nat} (h : OwV e w B (.slice (some ⟨g, 0, none⟩) n cap) xs) (j : Nat) (y : Value) : OwV e (w.setCell ⟨g, j, none⟩ y) B (.slice (some ⟨g, 0, none⟩) n cap) (xs.set j y) := by
  rcases h with ⟨h, _⟩ | ⟨g', cap', cur, hv, h2, hg, h3, h4, h5, ht⟩
  · simp at h
  · simp only [Value.slice.injEq, Option.some.injEq, Addr.mk.injEq, and_true, true_and] at hv
    obtain ⟨rfl, rfl, rfl⟩ := hv
    refine .inr ⟨g, cap, cur.setIfInBounds j y, by rw [List.length_set], h2, heap_setCell_same w g j cur _ _ hg, by rw [List.length_set]; exact h3, by simpa using h4, by simpa using h5, ?_⟩
    rw [Array.toList_setIfInBounds, List.length_set]
    conv => rhs; rw [← ht]
    rw [List.take_set]

theorem OwV.lt (h : OwV e w B v xs) : ∀ k, v.ownBlock = some k → B ≤ k ∧ k < w.heap.size := by
  intro k hk
  rcases h with ⟨rfl, _⟩ | ⟨g, cap, cur, rfl, h2, hg, _⟩
  · simp [Value.ownBlock] at hk
  · simp only [Value.ownBlock, Option.some.injEq] at hk
    subst hk
    exact ⟨h2, (Array.getElem?_eq_some_iff.1 hg).1⟩

/-- A write elsewhere. -/
theorem OwV.kept {row : Option Nat} (h : OwV e w B v xs) (hg : w.grownBy w' row) (hne : v.ownBlock = none ∨ v.ownBlock ≠ row) : OwV e w' B v xs := by
  rcases h with h | ⟨g, cap, cur, rfl, h2, hb, h4⟩
  · exact .inl h
  · refine .inr ⟨g, cap, cur, rfl, h2, ?_, h4⟩
    have hlt := (Array.getElem?_eq_some_iff.1 hb).1
    rw [hg.block g hlt (by rcases hne with h | h <;> simp [Value.ownBlock] at h; exact h)]
    exact hb
theorem RdV.kept {row : Option Nat} (h : RdV w v xs) (hg : w.grownBy w' row) (hne : xs = [] ∨ v.ownBlock ≠ row) : RdV w' v xs := by
  obtain ⟨ao, cap', rfl, hcp, hr⟩ := h
  refine ⟨_, _, rfl, hcp, ?_⟩
  rcases hr with hr | ⟨b, off, rfl, hc⟩
  · exact .inl hr
  · by_cases hx : xs = []
    · exact .inl hx
    refine .inr ⟨b, off, rfl, fun i hi => ?_⟩
    have hs : w.cell? ⟨b, off + i, none⟩ = some xs[i] := by rw [hc i hi]; simp
    have hlt := World.block_lt_of_cell? w _ hs
    have hb : w'.heap[b]? = w.heap[b]? := hg.block b hlt (by
      rcases hne with h | h
      · exact absurd h hx
      · simpa [Value.ownBlock] using h)
    rw [World.cell?_of_block (w := w) (w' := w') (a := ⟨b, off + i, none⟩) hb]
    exact hc i hi
end

theorem below_unV {w w1 : World} {m : Nat} (h : Below (w.drewN m).heap.size (w.drewN m) w1) : Below w.heap.size w w1 := ⟨h.os, h.tape, h.output, h.size, h.block⟩
theorem grown_of_belowV {w w' : World} (h : Below w.heap.size w w') : w.grownBy w' none := ⟨h.os, h.tape, h.output, h.size, fun k hk _ => h.block k hk⟩
theorem ownsRow_belowV {w w' : World} {B : Nat} {e : TypeId} {v : Value} {n : Nat} {xs : List Value} (h : w.ownsRow B e 1 v n xs) (hb : Below w.heap.size w w') : w'.ownsRow B e 1 v n xs := by
  refine h.kept (grown_of_belowV hb) ?_
  cases hv : v.ownBlock with
  | none => exact .inl rfl
  | some g => exact .inr (by simp)

section
variable {ops : Array Oper} {rest : List Oper} {o : Oper} {a : Act} {Q : Exit → Act → World → Prop}
/-- A row of the call's own with all of its room: what append takes. -/
def RowV (e : TypeId) (w : World) (B : Nat) (v : Value) (xs : List Value) : Prop := w.ownsRow B e 1 v xs.length xs
theorem RowV.own {e : TypeId} {w : World} {B : Nat} {v : Value} {xs : List Value} (h : RowV e w B v xs) : OwV e w B v xs := OwV.of_row h
theorem RowV.rd {e : TypeId} {w : World} {B : Nat} {v : Value} {xs : List Value} (h : RowV e w B v xs) : RdV w v xs := h.own.rd
theorem RowV.below {e : TypeId} {w w' : World} {B : Nat} {v : Value} {xs : List Value} (h : RowV e w B v xs) (hb : Below w.heap.size w w') : RowV e w' B v xs := ownsRow_belowV h hb
theorem RowV.lt {e : TypeId} {w : World} {B : Nat} {v : Value} {xs : List Value} (h : RowV e w B v xs) : ∀ k, v.ownBlock = some k → B ≤ k ∧ k < w.heap.size := World.ownsRow.lt h

/-- One value more. -/
theorem wpList_pushV {e t : TypeId} {W0 W : World} {B : Nat} {v : Value} {xs : List Value} {y : Value} (z : Value) (bytes : Nat) (hown : RowV e W0 B v xs)
    (hinfo : (Try.prog.info? e).map (fun i => (i.zero, i.size, i.bytes)) = some (some z, 1, bytes)) (hzs : z.cells.size = 1) (h1 : y.oneCell' = true) (hby : bytes ≤ 24)
    (hgd : o.guard = none) (s x : Operand) (ho : o.op = .call { callee := .builtin .append, args := #[s, x], argTypes := #[t, t] })
    (ht : Try.prog.underlying t = some (.slice e)) (hl : xs.length ≤ 1099511627776) (hB : B ≤ W0.heap.size)
    (hs : a.eval s = v) (hx : a.eval x = .slice (some ⟨W.heap.size, 0, none⟩) 1 1) (hW : W.heap = W0.heap) (hos : W.os = W0.os) (htp : W.tape = W0.tape) (hout : W.output = W0.output)
    (h : ∀ v' w', RowV e w' B v' (xs ++ [y]) → Below B W0 w' → W0.grownBy w' v.ownBlock → (v'.ownBlock = v.ownBlock ∨ ∃ g, v'.ownBlock = some g ∧ W0.heap.size ≤ g) → wpList Try.prog ops Q rest (a.put o.dst v') w') :
    wpList Try.prog ops Q (o :: rest) a (W.alloc (.cells #[y] e)) := by
  cases hi : Try.prog.info? e with
  | none => rw [hi] at hinfo; cases hinfo
  | some i =>
  rw [hi] at hinfo
  simp only [Option.map_some, Option.some.injEq, Prod.mk.injEq] at hinfo
  have hbb : (xs.length + 1) * bytes ≤ 140737488355328 := by
    have : (xs.length + 1) * bytes ≤ (xs.length + 1) * 24 := Nat.mul_le_mul_left _ hby
    omega
  refine wpList_push hown i z bytes hi hinfo.1 hinfo.2.1 hinfo.2.2 hzs hgd s x t ho ht W y hs hx hW h1 (by unfold maxLen; omega) hbb hB ?_
  intro g cap w1 hown1 hat hlt hgrow
  have hg0 : W0.grownBy w1 v.ownBlock := ⟨hgrow.os.trans hos, hgrow.tape.trans htp, hgrow.output.trans hout, by rw [← hW]; exact hgrow.size, fun k hk hne => by rw [← hW]; exact hgrow.block k (by rw [hW]; exact hk) hne⟩
  have hlen : (xs ++ [y]).length = xs.length + 1 := by simp
  refine h (.slice (some ⟨g, 0, none⟩) (xs.length + 1) cap) w1 (by unfold RowV; rw [hlen]; exact hown1) ?_ hg0 ?_
  · exact (Below.refl B W0).grown hg0 hB (fun k hk => (World.ownsRow.lt hown k hk).1)
  · rcases hat with h | h
    · exact .inl h.symm
    · exact .inr ⟨g, rfl, by omega⟩

/-- A copy: all of a list appended to a new empty one. -/
theorem wpList_cloneV {e t : TypeId} {W : World} {E : Nat} {v : Value} {xs : List Value} (z : Value) (bytes : Nat)
    (hinfo : (Try.prog.info? e).map (fun i => (i.zero, i.size, i.bytes)) = some (some z, 1, bytes)) (hzs : z.cells.size = 1) (h1 : ∀ u ∈ xs, u.oneCell' = true) (hby : bytes ≤ 24)
    (hgd : o.guard = none) (s x : Operand) (ho : o.op = .call { callee := .builtin .append, args := #[s, x], argTypes := #[t, t] })
    (ht : Try.prog.underlying t = some (.slice e)) (hrd : RdV W v xs) (hn : xs ≠ []) (hl : xs.length ≤ 1099511627776)
    (hs : a.eval s = .slice (some ⟨E, 0, none⟩) 0 0) (hx : a.eval x = v) (hE : E = W.heap.size)
    (h : ∀ g cap w', W.heap.size ≤ g → OwV e w' W.heap.size (.slice (some ⟨g, 0, none⟩) xs.length cap) xs → Below W.heap.size W w' → wpList Try.prog ops Q rest (a.put o.dst (.slice (some ⟨g, 0, none⟩) xs.length cap)) w') :
    wpList Try.prog ops Q (o :: rest) a (W.alloc (.cells #[] e)) := by
  subst hE
  have hown : (W.alloc (.cells #[] e)).ownsRow W.heap.size e 1 (.slice (some ⟨W.heap.size, 0, none⟩) 0 0) 0 [] := World.ownsRow_lit (base := W.heap.size) (size := 1) W #[] 0 (Nat.le_refl _) (by decide) rfl
  obtain ⟨ad, cap0, hv, _, hr⟩ := hrd
  rcases hr with hr | ⟨b, off, rfl, hc⟩
  · exact absurd hr hn
  subst hv
  have h0 : 0 < xs.length := List.length_pos_iff.2 hn
  cases hi : Try.prog.info? e with
  | none => rw [hi] at hinfo; cases hinfo
  | some i =>
  rw [hi] at hinfo
  simp only [Option.map_some, Option.some.injEq, Prod.mk.injEq] at hinfo
  have hbb : (0 + xs.length) * bytes ≤ 140737488355328 := by
    have : (0 + xs.length) * bytes ≤ (0 + xs.length) * 24 := Nat.mul_le_mul_left _ hby
    omega
  refine wpList_append_lies _ hgd s x t ho W.heap.size e i z 1 bytes ht hi hinfo.1 hinfo.2.1 hinfo.2.2 hzs (by decide) _ 0 [] hs hown ⟨b, off, none⟩ xs.length cap0 xs hx (by simp) ?_ h1 h0 (by simp [maxLen]; omega) hbb (by simp) (W.heap.size + 1) (by simp) ?_
  · intro j u hj
    have hj' : j < xs.length := (List.getElem?_eq_some_iff.1 hj).1
    have c := hc j hj'
    rw [hj] at c
    have hb : b < W.heap.size := World.block_lt_of_cell? W _ c
    rw [← c, show (⟨b, off, none⟩ : Addr).add j = ⟨b, off + j, none⟩ from by unfold Addr.add; split <;> simp_all]
    exact ((Below.refl W.heap.size W).alloc (Nat.le_refl _) (.cells #[] e)).cell (p := ⟨b, off + j, none⟩) hb
  · intro g cap w1 hown' hgrow hat hlt
    rw [Nat.zero_add] at hown'
    simp only [Nat.zero_add]
    refine h g cap w1 (by simp [Value.ownBlock] at hat; omega) (by have := OwV.of_row hown'; simpa using this) ?_
    exact ((Below.refl W.heap.size W).alloc (Nat.le_refl _) _).grown hgrow (by simp) (fun k hk => by simp [Value.ownBlock] at hk; omega)
end
end Go.Proofs.Ytfamcgibcnldlaa
