/- 'out = append(out, x)' of one element of one cell, on a row of the call's own. Conditions: none. -/
import Derived.Test.YtlnjkjogedbhfaaIBase
import Derived.Deep.AppendLies
import Derived.Below
import Derived.OwnWalk
namespace Go.Proofs.Ytlnjkjogedbhfaa
open Go Go.RowKit
set_option linter.unusedSimpArgs false
set_option linter.unusedVariables false

section
variable {P : Program} {ops : Array Oper} {rest : List Oper} {o : Oper} {a : Act} {Q : Exit → Act → World → Prop}
theorem wpList_push {W0 : World} {base : Nat} {e : TypeId} {v : Value} {n : Nat} {xs : List Value} (hown : W0.ownsRow base e 1 v n xs)
    (i : TypeInfo) (z : Value) (bytes : Nat) (hi : P.info? e = some i) (hz : i.zero = some z) (hsize : i.size = 1) (hby : i.bytes = bytes) (hzs : z.cells.size = 1)
    (hgd : o.guard = none) (s x : Operand) (t : TypeId) (ho : o.op = .call { callee := .builtin .append, args := #[s, x], argTypes := #[t, t] })
    (ht : P.underlying t = some (.slice e)) (W : World) (y : Value) (hs : a.eval s = v) (hx : a.eval x = .slice (some ⟨W.heap.size, 0, none⟩) 1 1)
    (hW : W.heap = W0.heap) (h1 : y.oneCell' = true) (hn : n + 1 ≤ maxLen) (hb : (n + 1) * bytes ≤ 140737488355328) (hbase : base ≤ W0.heap.size)
    (h : ∀ g cap w', w'.ownsRow base e 1 (.slice (some ⟨g, 0, none⟩) (n + 1) cap) (n + 1) (xs ++ [y]) → (v.ownBlock = some g ∨ g = W0.heap.size + 1) → g < w'.heap.size → W.grownBy w' v.ownBlock → wpList P ops Q rest (a.put o.dst (.slice (some ⟨g, 0, none⟩) (n + 1) cap)) w') : wpList P ops Q (o :: rest) a (W.alloc (.cells #[y] e)) := by
  have hown1 : (W.alloc (.cells #[y] e)).ownsRow base e 1 v n xs := by
    have h2 : W.ownsRow base e 1 v n xs := by
      unfold World.ownsRow at hown ⊢
      rw [hW]; exact hown
    exact h2.alloc _
  refine wpList_append_lies _ hgd s x t ho base e i z 1 bytes ht hi hz hsize hby hzs (by decide) v n xs hs hown1 ⟨W.heap.size, 0, none⟩ 1 1 [y] hx (by simp) ?_ ?_ (by decide) hn hb (by simp; rw [hW]; omega) (W.heap.size + 1) (by simp) ?_
  · intro j u hj
    cases j with
    | zero => simp only [List.getElem?_cons_zero, Option.some.injEq] at hj; subst hj; exact (World.cell?_alloc_new W _ e 0 : _)
    | succ j => simp at hj
  · intro u hu; simp only [List.mem_singleton] at hu; subst hu; exact h1
  · intro g cap w1 hown' hgrow hat hlt
    refine h g cap w1 hown' (by rw [← hW]; exact hat) hlt ?_
    exact ⟨hgrow.os, hgrow.tape, hgrow.output, Nat.le_trans (by simp) hgrow.size, fun k hk hne => by rw [hgrow.block k (by simp; omega) hne]; exact heap_alloc_old W _ hk⟩

/-- A row of the call's own with all of its room: what append takes. -/
def RowI (w : World) (B : Nat) (v : Value) (zs : List Int) : Prop := w.ownsRow B 2 1 v zs.length (cellsI zs)
theorem RowI.own {w : World} {B : Nat} {v : Value} {zs : List Int} (h : RowI w B v zs) : OwI w B v zs := OwI.of_row h
theorem RowI.empty (w : World) : RowI (w.alloc (.cells #[] 2)) w.heap.size (.slice (some ⟨w.heap.size, 0, none⟩) 0 0) [] := World.ownsRow_lit (base := w.heap.size) (size := 1) w #[] 0 (Nat.le_refl _) (by decide) rfl

/-- A copy: all of a list appended to a new empty one. -/
theorem wpList_cloneR {t : TypeId} {W : World} {E : Nat} {v : Value} {zs : List Int}
    (hgd : o.guard = none) (s x : Operand) (ho : o.op = .call { callee := .builtin .append, args := #[s, x], argTypes := #[t, t] })
    (ht : Try.prog.underlying t = some (.slice 2)) (hrd : RdI W v zs) (hn : zs ≠ []) (hl : zs.length ≤ 1099511627776)
    (hs : a.eval s = .slice (some ⟨E, 0, none⟩) 0 0) (hx : a.eval x = v) (hE : E = W.heap.size) 
    (h : ∀ g cap w', W.heap.size ≤ g → RowI w' W.heap.size (.slice (some ⟨g, 0, none⟩) zs.length cap) zs → Below W.heap.size W w' → wpList Try.prog ops Q rest (a.put o.dst (.slice (some ⟨g, 0, none⟩) zs.length cap)) w') :
    wpList Try.prog ops Q (o :: rest) a (W.alloc (.cells #[] 2)) := by
  subst hE
  have hown : (W.alloc (.cells #[] 2)).ownsRow W.heap.size 2 1 (.slice (some ⟨W.heap.size, 0, none⟩) 0 0) 0 [] := World.ownsRow_lit (base := W.heap.size) (size := 1) W #[] 0 (Nat.le_refl _) (by decide) rfl
  obtain ⟨ad, cap0, hv, _, hr⟩ := hrd
  rcases hr with hr | ⟨b, off, rfl, hc⟩
  · exact absurd hr hn
  subst hv
  have h0 : 0 < zs.length := List.length_pos_iff.2 hn
  have hi2 := info2
  cases hi : Try.prog.info? 2 with
  | none => rw [hi] at hi2; cases hi2
  | some i =>
  rw [hi] at hi2
  simp only [Option.map_some, Option.some.injEq, Prod.mk.injEq] at hi2
  refine wpList_append_lies _ hgd s x t ho W.heap.size 2 i (.int .i64 0) 1 8 ht hi hi2.1 hi2.2.1 hi2.2.2 rfl (by decide) _ 0 [] hs hown ⟨b, off, none⟩ zs.length cap0 (cellsI zs) hx (by simp) ?_ ?_ h0 (by simp [maxLen]; omega) (by omega) (by simp) (W.heap.size + 1) (by simp) ?_
  · intro j u hj
    have hj' : j < zs.length := by
      have := (List.getElem?_eq_some_iff.1 hj).1
      simpa using this
    rw [cellsI_get hj'] at hj
    have c := hc j hj'
    have hb : b < W.heap.size := World.block_lt_of_cell? W _ c
    rw [← hj, ← c, show (⟨b, off, none⟩ : Addr).add j = ⟨b, off + j, none⟩ from by unfold Addr.add; split <;> simp_all]
    exact ((Below.refl W.heap.size W).alloc (Nat.le_refl _) (.cells #[] 2)).cell (p := ⟨b, off + j, none⟩) hb
  · intro u hu
    simp only [cellsI, List.mem_map] at hu
    obtain ⟨z, _, rfl⟩ := hu
    rfl
  · intro g cap w1 hown' hgrow hat hlt
    rw [Nat.zero_add] at hown'
    simp only [Nat.zero_add]
    refine h g cap w1 (by simp [Value.ownBlock] at hat; omega) (by simpa [RowI] using hown') ?_
    exact ((Below.refl W.heap.size W).alloc (Nat.le_refl _) _).grown hgrow (by simp) (fun k hk => by simp [Value.ownBlock] at hk; omega)

/-- A copy: all of a list appended to a new empty one. -/
theorem wpList_clone {t : TypeId} {W : World} {E : Nat} {v : Value} {zs : List Int}
    (hgd : o.guard = none) (s x : Operand) (ho : o.op = .call { callee := .builtin .append, args := #[s, x], argTypes := #[t, t] })
    (ht : Try.prog.underlying t = some (.slice 2)) (hrd : RdI W v zs) (hn : zs ≠ []) (hl : zs.length ≤ 1099511627776)
    (hs : a.eval s = .slice (some ⟨E, 0, none⟩) 0 0) (hx : a.eval x = v) (hE : E = W.heap.size)
    (h : ∀ g cap w', OwI w' W.heap.size (.slice (some ⟨g, 0, none⟩) zs.length cap) zs → Below W.heap.size W w' → wpList Try.prog ops Q rest (a.put o.dst (.slice (some ⟨g, 0, none⟩) zs.length cap)) w') :
    wpList Try.prog ops Q (o :: rest) a (W.alloc (.cells #[] 2)) :=
  wpList_cloneR hgd s x ho ht hrd hn hl hs hx hE fun g cap w' _ h1 h2 => h g cap w' h1.own h2

/-- One number more. -/
theorem wpList_pushI {t : TypeId} {W : World} {B : Nat} {v : Value} {zs : List Int} {y : Int} (hown : RowI W B v zs)
    (hgd : o.guard = none) (s x : Operand) (ho : o.op = .call { callee := .builtin .append, args := #[s, x], argTypes := #[t, t] })
    (ht : Try.prog.underlying t = some (.slice 2)) (hl : zs.length ≤ 1099511627776) (hB : B ≤ W.heap.size)
    (hs : a.eval s = v) (hx : a.eval x = .slice (some ⟨W.heap.size, 0, none⟩) 1 1)
    (h : ∀ v' w', RowI w' B v' (zs ++ [y]) → Below B W w' → wpList Try.prog ops Q rest (a.put o.dst v') w') :
    wpList Try.prog ops Q (o :: rest) a (W.alloc (.cells #[.int .i64 y] 2)) := by
  have hi2 := info2
  cases hi : Try.prog.info? 2 with
  | none => rw [hi] at hi2; cases hi2
  | some i =>
  rw [hi] at hi2
  simp only [Option.map_some, Option.some.injEq, Prod.mk.injEq] at hi2
  refine wpList_push hown i _ 8 hi hi2.1 hi2.2.1 hi2.2.2 rfl hgd s x t ho ht W (.int .i64 y) hs hx rfl rfl (by unfold maxLen; omega) (by omega) hB ?_
  intro g cap w1 hown1 hat hlt hgrow
  refine h _ w1 (by simpa [RowI, cellsI] using hown1) ?_
  refine (Below.refl B W).grown hgrow hB (fun k hk => ?_)
  rcases hown.2 with ⟨rfl, _⟩ | ⟨g', _, _, rfl, hb, _⟩
  · simp [Value.ownBlock] at hk
  · simp [Value.ownBlock] at hk; omega
end
end Go.Proofs.Ytlnjkjogedbhfaa
