/- 'out = append(out, x)' of one element of one cell, on a row of the call's own. Conditions: none. -/
import Derived.Test.YtfamcgibcnldlaaFloat
import Derived.Deep.AppendLies
import Derived.Below
import Derived.OwnWalk
namespace Go.Proofs.Ytfamcgibcnldlaa
open Go Go.RowKit
set_option linter.unusedSimpArgs false
set_option linter.unusedVariables false

section
variable {P : Program} {ops : Array Oper} {rest : List Oper} {o : Oper} {a : Act} {Q : Exit → Act → World → Prop}
theorem wpList_push {W0 : World} {base : Nat} {e : TypeId} {v : Value} {n : Nat} {xs : List Value} (hown : W0.ownsRow base e 1 v n xs)
    (i : TypeInfo) (z : Value) (bytes : Nat) (hi : P.info? e = some i) (hz : i.zero = some z) (hsize : i.size = 1) (hby : i.bytes = bytes) (hzs : z.cells.size = 1)
    (hgd : o.guard = none) (s x : Operand) (t : TypeId) (ho : o.op = .call { callee := .builtin .append, args := #[s, x], argTypes := #[t, t] })
    (ht : P.underlying t = some (.slice e)) (W : World) (y : Value) (hs : a.eval s = v) (hx : a.eval x = .slice (some ⟨W.heap.size, 0, none⟩) 1 1)
    (hW : W.heap = W0.heap) (h1 : y.oneCell' = true) (hn : n + 1 ≤ maxLen) (hb : (n + 1) * bytes ≤ 140737488355328) (hbase : base ≤ W0.heap.size)
    (h : ∀ g cap w', w'.ownsRow base e 1 (.slice (some ⟨g, 0, none⟩) (n + 1) cap) (n + 1) (xs ++ [y]) → (v.ownBlock = some g ∨ g = W0.heap.size + 1) → g < w'.heap.size → W.grownBy w' v.ownBlock → wpList P ops Q rest (a.put o.dst (.slice (some ⟨g, 0, none⟩) (n + 1) cap)) w') : wpList P ops Q (o :: rest) a (W.alloc (.cells #[y] e)) := by
  have hown1 : (W.alloc (.cells #[y] e)).ownsRow base e 1 v n xs := by
    have h2 : W.ownsRow base e 1 v n xs := by
      unfold World.ownsRow at hown ⊢
      rw [hW]; exact hown
    exact h2.alloc _
  refine wpList_append_lies _ hgd s x t ho base e i z 1 bytes ht hi hz hsize hby hzs (by decide) v n xs hs hown1 ⟨W.heap.size, 0, none⟩ 1 1 [y] hx (by simp) ?_ ?_ (by decide) hn hb (by simp; rw [hW]; omega) (W.heap.size + 1) (by simp) ?_
  · intro j u hj
    cases j with
    | zero => simp only [List.getElem?_cons_zero, Option.some.injEq] at hj; subst hj; exact (World.cell?_alloc_new W _ e 0 : _)
    | succ j => simp at hj
  · intro u hu; simp only [List.mem_singleton] at hu; subst hu; exact h1
  · intro g cap w1 hown' hgrow hat hlt
    refine h g cap w1 hown' (by rw [← hW]; exact hat) hlt ?_
    exact ⟨hgrow.os, hgrow.tape, hgrow.output, Nat.le_trans (by simp) hgrow.size, fun k hk hne => by rw [hgrow.block k (by simp; omega) hne]; exact heap_alloc_old W _ hk⟩
end
end Go.Proofs.Ytfamcgibcnldlaa
