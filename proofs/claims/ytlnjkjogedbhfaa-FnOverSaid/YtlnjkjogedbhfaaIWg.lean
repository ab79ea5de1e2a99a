/- A list of wholes copied, and nothing appended. Conditions: none. -/
import Derived.Test.YtlnjkjogedbhfaaIWf
import Derived.Maps.AppendAt
namespace Go.Proofs.Ytlnjkjogedbhfaa
open Go Go.RowKit
set_option linter.unusedSimpArgs false
set_option linter.unusedVariables false

section
variable {ops : Array Oper} {rest : List Oper} {o : Oper} {a : Act} {Q : Exit → Act → World → Prop}
/-- All of a list appended to a new empty one: a row of its own, the elements are the same. -/
theorem wpList_cloneX {T t : TypeId} {W : World} {B E : Nat} {X : Nat → Prop} {v : Value} {ls : List (List Int)} {z : Value} (hinfo : (Try.prog.info? T).map (fun i => (i.zero, i.size, i.bytes)) = some (some z, 1, 24)) (hzc : z.cells.size = 1)
    (hown : RowX T W B X v ls) (hX : ∀ k, X k → k < W.heap.size)
    (hgd : o.guard = none) (s x : Operand) (ho : o.op = .call { callee := .builtin .append, args := #[s, x], argTypes := #[t, t] })
    (ht : Try.prog.underlying t = some (.slice T)) (hl : ls.length ≤ 1048576) (hB : B ≤ W.heap.size)
    (hs : a.eval s = .slice (some ⟨E, 0, none⟩) 0 0) (hx : a.eval x = v) (hE : E = W.heap.size)
    (h : ∀ g cap w', W.heap.size ≤ g → RowX T w' B X (.slice (some ⟨g, 0, none⟩) ls.length cap) ls → Below W.heap.size W w' → wpList Try.prog ops Q rest (a.put o.dst (.slice (some ⟨g, 0, none⟩) ls.length cap)) w') :
    wpList Try.prog ops Q (o :: rest) a (W.alloc (.cells #[] T)) := by
  subst hE
  cases hi : Try.prog.info? T with
  | none => rw [hi] at hinfo; cases hinfo
  | some i =>
  rw [hi] at hinfo
  simp only [Option.map_some, Option.some.injEq, Prod.mk.injEq] at hinfo
  obtain ⟨g0, cap0, f0, c0, rfl, hr, he0, hg0X, hf0X⟩ := hown
  obtain ⟨_, hlen, hBg, hg0, h4, h5, cur, h3, h6, h7⟩ := ownsRow_open hr
  have hlit : (W.alloc (.cells #[] T)).ownsRow W.heap.size T 1 (.slice (some ⟨W.heap.size, 0, none⟩) 0 0) 0 [] := World.ownsRow_lit (base := W.heap.size) (size := 1) W #[] 0 (Nat.le_refl _) (by decide) rfl
  refine wpList_append_own_at _ hgd s x t ho W.heap.size T i z 1 24 ht hi hinfo.1 hinfo.2.1 hinfo.2.2 hzc (by decide) _ 0 [] hs hlit ⟨g0, 0, none⟩ ls.length cap0 ((List.range ls.length).map (elV ls f0 c0)) hx (by simp) ?_ ?_ (by unfold maxLen; omega) (by omega) (by simp) ?_
  · intro j u hj
    have hj' : j < ls.length := by
      have := (List.getElem?_eq_some_iff.1 hj).1
      simpa using this
    rw [show (⟨g0, 0, none⟩ : Addr).add j = ⟨g0, 0 + j, none⟩ from by unfold Addr.add; split <;> simp_all, Nat.zero_add]
    rw [((Below.refl W.heap.size W).alloc (Nat.le_refl _) (.cells #[] T)).cell (p := ⟨g0, j, none⟩) hg0, cell_of_row W g0 j cur _ (0, 0) h3]
    have h8 := congrArg (·[j]?) h7
    simp only [List.getElem?_take, if_pos hj'] at h8
    rw [hj] at h8
    simpa using h8
  · intro u hu
    simp only [List.mem_map] at hu
    obtain ⟨j, _, rfl⟩ := hu
    rfl
  · intro v' w' hown' hgrow hnil hat
    rw [Nat.zero_add, List.nil_append] at hown'
    have hBel : Below W.heap.size W w' := ((Below.refl W.heap.size W).alloc (Nat.le_refl _) _).grown hgrow (by simp) (fun k hk => by simp [Value.ownBlock] at hk; omega)
    obtain ⟨q0, q⟩ := hown'
    rcases q with ⟨hv, _⟩ | ⟨g, cap, cur', rfl, hb, q3⟩
    · exact absurd (hnil.1 hv).1 (by simp)
    · refine h g cap _ hb ⟨g, cap, f0, c0, rfl, ⟨q0, .inr ⟨g, cap, cur', rfl, by omega, q3⟩⟩, fun i hi => ?_, fun h => by have := hX _ h; omega, hf0X⟩ hBel
      have h9 := he0 i hi
      obtain ⟨_, r1, r2, _⟩ := h9.1.cases1
      exact ⟨h9.1.below hBel, by have := hBel.size; omega, by omega, h9.2.2.2⟩
/-- Nothing appended. -/
theorem wpList_noneX {T t : TypeId} {W : World} {B : Nat} {X : Nat → Prop} {v : Value} {ls : List (List Int)} {z : Value} {ad : Addr} {c : Nat} (hinfo : (Try.prog.info? T).map (fun i => (i.zero, i.size, i.bytes)) = some (some z, 1, 24)) (hzc : z.cells.size = 1)
    (hown : RowX T W B X v ls) (hX : ∀ k, X k → k < W.heap.size)
    (hgd : o.guard = none) (s x : Operand) (ho : o.op = .call { callee := .builtin .append, args := #[s, x], argTypes := #[t, t] })
    (ht : Try.prog.underlying t = some (.slice T)) (hl : ls.length ≤ 1048576) (hB : B ≤ W.heap.size)
    (hs : a.eval s = v) (hx : a.eval x = .slice (some ad) 0 c)
    (h : ∀ v' w', RowX T w' B X v' ls → Below B W w' → (∀ k, k < W.heap.size → v.ownBlock ≠ some k → w'.heap[k]? = W.heap[k]?) → (∀ g n c, v' = .slice (some ⟨g, 0, none⟩) n c → v.ownBlock = some g ∨ W.heap.size ≤ g) → wpList Try.prog ops Q rest (a.put o.dst v') w') :
    wpList Try.prog ops Q (o :: rest) a W := by
  cases hi : Try.prog.info? T with
  | none => rw [hi] at hinfo; cases hinfo
  | some i =>
  rw [hi] at hinfo
  simp only [Option.map_some, Option.some.injEq, Prod.mk.injEq] at hinfo
  obtain ⟨g0, cap0, f0, c0, rfl, hr, he0, hg0X, hf0X⟩ := hown
  obtain ⟨_, hlen, hBg, hg0, _⟩ := ownsRow_open hr
  refine wpList_append_own_at _ hgd s x t ho B T i z 1 24 ht hi hinfo.1 hinfo.2.1 hinfo.2.2 hzc (by decide) _ ls.length _ hs hr ad 0 c [] hx (by simp) (by simp) (by simp) (by unfold maxLen; omega) (by omega) hB ?_
  intro v' w' hown' hgrow hnil hat
  rw [Nat.add_zero, List.append_nil] at hown'
  have hBel : Below B W w' := (Below.refl B W).grown hgrow hB (fun k hk => by simp only [Value.ownBlock, Option.some.injEq] at hk; omega)
  have hblk : ∀ k, k < W.heap.size → k ≠ g0 → w'.heap[k]? = W.heap[k]? := fun k hk hne => hgrow.block k hk (by simp [Value.ownBlock]; exact hne)
  obtain ⟨q0, q⟩ := hown'
  rcases q with ⟨hv, _⟩ | ⟨g, cap, cur', rfl, hb, q3⟩
  · exact absurd (hnil.1 hv).1 (by simp)
  · have hgr : g = g0 ∨ g = W.heap.size := by
      rcases hat with h | h <;> simp [Value.ownBlock] at h
      · exact .inl h
      · exact .inr h
    refine h _ _ ⟨g, cap, f0, c0, rfl, ⟨q0, .inr ⟨g, cap, cur', rfl, hb, q3⟩⟩, fun i hi => ?_, ?_, hf0X⟩ hBel (fun k h1 h2 => hblk k h1 (by intro h; rw [h] at h2; exact h2 rfl)) (fun g' n c hv => by
      simp only [Value.slice.injEq, Option.some.injEq, Addr.mk.injEq, and_true] at hv
      rcases hgr with h | h
      · left; rw [← hv.1, h]; rfl
      · right; omega)
    · have h9 := he0 i hi
      obtain ⟨_, r1, r2, _⟩ := h9.1.cases1
      refine ⟨h9.1.block (hblk _ r2 h9.2.2.1), by have := hBel.size; omega, ?_, h9.2.2.2⟩
      rcases hgr with h | h
      · rw [h]; exact h9.2.2.1
      · omega
    · rcases hgr with h | h
      · rw [h]; exact hg0X
      · intro h2; have := hX _ h2; omega
end

end Go.Proofs.Ytlnjkjogedbhfaa
