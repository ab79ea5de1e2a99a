/- Lists of lists of the call's own, apart from blocks that are written otherwise. Conditions: none. -/
import Derived.Test.YtlnjkjogedbhfaaIWs
import Derived.Test.YtlnjkjogedbhfaaI36
namespace Go.Proofs.Ytlnjkjogedbhfaa
open Go Go.RowKit
set_option linter.unusedSimpArgs false
set_option linter.unusedVariables false

/-- A list that is being built; none of its blocks is in X. -/
def RowX (T : TypeId) (w : World) (B : Nat) (X : Nat → Prop) (v : Value) (ls : List (List Int)) : Prop :=
  ∃ g cap f c, v = .slice (some ⟨g, 0, none⟩) ls.length cap ∧ w.ownsRow B T 1 v ls.length ((List.range ls.length).map (elV ls f c)) ∧ ElWs w B w.heap.size g ls f c ∧ ¬ X g ∧ ∀ i, i < ls.length → ¬ X (f i)
theorem ownsRow_open {w : World} {B g n n' cap : Nat} {T : TypeId} {xs : List Value} (h : w.ownsRow B T 1 (.slice (some ⟨g, 0, none⟩) n' cap) n xs) : n' = n ∧ xs.length = n ∧ B ≤ g ∧ g < w.heap.size ∧ n ≤ cap ∧ cap ≤ maxLen ∧ ∃ cur, w.heap[g]? = some (.cells cur T (0, 0)) ∧ cur.size = cap ∧ cur.toList.take n = xs := by
  obtain ⟨h0, h | ⟨g', cap', cur, h1, h2, h3, h4, h5, h6, h7⟩⟩ := h
  · simp at h
  · simp only [Value.slice.injEq, Option.some.injEq, Addr.mk.injEq, and_true] at h1
    obtain ⟨rfl, rfl, rfl⟩ := h1
    exact ⟨rfl, by omega, h2, (Array.getElem?_eq_some_iff.1 h3).1, h4, h5, cur, h3, by omega, by rwa [Nat.mul_one] at h7⟩
theorem ownsRow_block {w w' : World} {B g n cap : Nat} {T : TypeId} {xs : List Value} (h : w.ownsRow B T 1 (.slice (some ⟨g, 0, none⟩) n cap) n xs) (hb : w'.heap[g]? = w.heap[g]?) : w'.ownsRow B T 1 (.slice (some ⟨g, 0, none⟩) n cap) n xs := by
  obtain ⟨h0, h | ⟨g', cap', cur, h1, h2, h3, h4⟩⟩ := h
  · simp at h
  · refine ⟨h0, .inr ⟨g', cap', cur, h1, h2, ?_, h4⟩⟩
    simp only [Value.slice.injEq, Option.some.injEq, Addr.mk.injEq, and_true] at h1
    rw [← h1.1, hb, h1.1]
    exact h3
theorem RowX.kept {T : TypeId} {w w' : World} {B : Nat} {X : Nat → Prop} {v : Value} {ls : List (List Int)} (h : RowX T w B X v ls) (hs : w.heap.size ≤ w'.heap.size) (hb : ∀ k, k < w.heap.size → B ≤ k → ¬ X k → w'.heap[k]? = w.heap[k]?) : RowX T w' B X v ls := by
  obtain ⟨g, cap, f, c, rfl, hr, he, hg, hf⟩ := h
  obtain ⟨_, _, hB, hlt, _⟩ := ownsRow_open hr
  refine ⟨g, cap, f, c, rfl, ownsRow_block hr (hb g hlt hB hg), fun i hi => ?_, hg, hf⟩
  have h1 := he i hi
  obtain ⟨_, q1, q2, _⟩ := h1.1.cases1
  exact ⟨h1.1.block (hb _ q2 q1 (hf i hi)), by omega, h1.2.2⟩
theorem RowX.below {T : TypeId} {w w' : World} {B : Nat} {X : Nat → Prop} {v : Value} {ls : List (List Int)} (h : RowX T w B X v ls) (hb : Below w.heap.size w w') : RowX T w' B X v ls := h.kept hb.size fun k hk _ _ => hb.block k hk
theorem RowX.only {T : TypeId} {w w' : World} {B g : Nat} {X : Nat → Prop} {v : Value} {ls : List (List Int)} (h : RowX T w B X v ls) (hb : Only g (g + 1) w w') (hX : X g) : RowX T w' B X v ls := h.kept hb.size fun k hk _ hn => hb.block k hk (by
  rcases Nat.lt_trichotomy k g with h1 | h1 | h1
  · exact .inl h1
  · subst h1; exact absurd hX hn
  · exact .inr h1)
theorem RowX.weak {T : TypeId} {w : World} {B : Nat} {X X' : Nat → Prop} {v : Value} {ls : List (List Int)} (h : RowX T w B X v ls) (hX : ∀ k, X' k → X k) : RowX T w B X' v ls := by
  obtain ⟨g, cap, f, c, hv, hr, he, hg, hf⟩ := h
  exact ⟨g, cap, f, c, hv, hr, he, fun h => hg (hX _ h), fun i hi h => hf i hi (hX _ h)⟩
theorem RowX.lt {T : TypeId} {w : World} {B g n cap : Nat} {X : Nat → Prop} {ls : List (List Int)} (h : RowX T w B X (.slice (some ⟨g, 0, none⟩) n cap) ls) : g < w.heap.size := by
  obtain ⟨g', cap', f, c, hv, hr, _⟩ := h
  rw [hv] at hr
  obtain ⟨_, _, _, hlt, _⟩ := ownsRow_open hr
  simp only [Value.slice.injEq, Option.some.injEq, Addr.mk.injEq, and_true] at hv
  omega
/-- Blocks that were made since are others. -/
theorem RowX.fresh {T : TypeId} {w : World} {B : Nat} {X : Nat → Prop} {v : Value} {ls : List (List Int)} (h : RowX T w B X v ls) : RowX T w B (fun k => X k ∨ w.heap.size ≤ k) v ls := by
  obtain ⟨g, cap, f, c, rfl, hr, he, hg, hf⟩ := h
  obtain ⟨_, _, hB, hlt, _⟩ := ownsRow_open hr
  refine ⟨g, cap, f, c, rfl, hr, he, fun h => ?_, fun i hi h => ?_⟩
  · rcases h with h | h
    · exact hg h
    · omega
  · rcases h with h | h
    · exact hf i hi h
    · have := (he i hi).2.1; omega
theorem RowX.shape {T : TypeId} {w : World} {B : Nat} {X : Nat → Prop} {v : Value} {ls : List (List Int)} (h : RowX T w B X v ls) : ∃ g cap, v = .slice (some ⟨g, 0, none⟩) ls.length cap := by
  obtain ⟨g, cap, f, c, hv, _⟩ := h
  exact ⟨g, cap, hv⟩
theorem RowX.empty {T : TypeId} {w : World} {B s : Nat} {X : Nat → Prop} (hs : s = w.heap.size) (hB : B ≤ s) (hX : ¬ X s) : RowX T (w.alloc (.cells #[] T)) B X (.slice (some ⟨s, 0, none⟩) 0 0) [] := by
  subst hs
  exact ⟨w.heap.size, 0, fun _ => 0, fun _ => 0, rfl, World.ownsRow_lit (base := B) (size := 1) w #[] 0 hB (by decide) rfl, fun i hi => absurd hi (by simp), hX, fun i hi => absurd hi (by simp)⟩
theorem RowX.own {T : TypeId} {w : World} {B : Nat} {X : Nat → Prop} {v : Value} {ls : List (List Int)} (h : RowX T w B X v ls) : OwWs w B w.heap.size v ls := by
  obtain ⟨g, cap, f, c, rfl, hr, he, _⟩ := h
  obtain ⟨_, _, hB, hg, h4, h5, cur, h3, h6, h7⟩ := ownsRow_open hr
  refine .inr ⟨g, cap, f, c, rfl, ⟨h4, h5⟩, hB, hg, hg, he, fun i hi => ?_⟩
  rw [cell_of_row w g i cur _ (0, 0) h3]
  have := congrArg (·[i]?) h7
  simp only [List.getElem?_take, if_pos hi, List.getElem?_map, List.getElem?_range hi, Option.map_some] at this
  simpa using this
theorem RowX.mono {T : TypeId} {w : World} {B B' : Nat} {X : Nat → Prop} {v : Value} {ls : List (List Int)} (h : RowX T w B X v ls) (hb : B' ≤ B) : RowX T w B' X v ls := by
  obtain ⟨g, cap, f, c, hv, hr, he, hx⟩ := h
  refine ⟨g, cap, f, c, hv, ⟨hr.1, ?_⟩, fun i hi => ⟨(he i hi).1.mono hb, (he i hi).2⟩, hx⟩
  rcases hr.2 with h | ⟨g', cap', cur, h1, h2, h3⟩
  · exact .inl h
  · exact .inr ⟨g', cap', cur, h1, by omega, h3⟩

section
variable {ops : Array Oper} {rest : List Oper} {o : Oper} {a : Act} {Q : Exit → Act → World → Prop}
/-- One list more, whose block was kept apart so far. -/
theorem wpList_pushX {T t : TypeId} {W : World} {B E : Nat} {X X' : Nat → Prop} {v : Value} {ls : List (List Int)} {p n q : Nat} {zs : List Int} {z : Value} (hinfo : (Try.prog.info? T).map (fun i => (i.zero, i.size, i.bytes)) = some (some z, 1, 24)) (hzc : z.cells.size = 1)
    (hown : RowX T W B X v ls) (hp : X p) (hpX : ¬ X' p) (hsub : ∀ k, X' k → X k ∧ k < W.heap.size)
    (hy : OwI W B (.slice (some ⟨p, 0, none⟩) n q) zs)
    (hgd : o.guard = none) (s x : Operand) (ho : o.op = .call { callee := .builtin .append, args := #[s, x], argTypes := #[t, t] })
    (ht : Try.prog.underlying t = some (.slice T)) (hl : ls.length ≤ 1048576) (hB : B ≤ W.heap.size)
    (hs : a.eval s = v) (hx : a.eval x = .slice (some ⟨E, 0, none⟩) 1 1) (hE : E = W.heap.size)
    (h : ∀ v' w', RowX T w' B X' v' (ls ++ [zs]) → Below B W w' → (∀ k, k < W.heap.size → v.ownBlock ≠ some k → w'.heap[k]? = W.heap[k]?) → (∀ g n c, v' = .slice (some ⟨g, 0, none⟩) n c → v.ownBlock = some g ∨ W.heap.size ≤ g) → wpList Try.prog ops Q rest (a.put o.dst v') w') :
    wpList Try.prog ops Q (o :: rest) a (W.alloc (.cells #[.slice (some ⟨p, 0, none⟩) n q] T)) := by
  subst hE
  cases hi : Try.prog.info? T with
  | none => rw [hi] at hinfo; cases hinfo
  | some i =>
  rw [hi] at hinfo
  simp only [Option.map_some, Option.some.injEq, Prod.mk.injEq] at hinfo
  obtain ⟨g0, cap0, f0, c0, rfl, hr, he0, hg0X, hf0X⟩ := hown
  obtain ⟨_, _, hBg, hg0, _⟩ := ownsRow_open hr
  obtain ⟨rfl, hy1, hy2, _⟩ := hy.cases1
  have hpg : g0 ≠ p := fun e => hg0X (e ▸ hp)
  refine wpList_push hr i _ 24 hi hinfo.1 hinfo.2.1 hinfo.2.2 hzc hgd s x t ho ht W (.slice (some ⟨p, 0, none⟩) zs.length q) hs hx rfl rfl (by unfold maxLen; omega) (by omega) hB ?_
  intro g cap w1 hown1 hat hlt hgrow
  have hgr : g = g0 ∨ g = W.heap.size + 1 := by
    rcases hat with h | h
    · left; simp [Value.ownBlock] at h; exact h.symm
    · exact .inr h
  have hblk : ∀ k, k < W.heap.size → k ≠ g0 → w1.heap[k]? = W.heap[k]? := fun k hk hne => hgrow.block k hk (by simp [Value.ownBlock]; exact hne)
  refine h _ w1 ⟨g, cap, fun i => if i < ls.length then f0 i else p, fun i => if i < ls.length then c0 i else q, by simp, ?_, fun i hi => ?_, ?_, fun i hi => ?_⟩ ?_ (fun k h1 h2 => hblk k h1 (by intro h; rw [h] at h2; exact h2 rfl)) (fun g' n c hv => by
    simp only [Value.slice.injEq, Option.some.injEq, Addr.mk.injEq, and_true] at hv
    rcases hat with h | h
    · left; rw [h, hv.1]
    · right; omega)
  · have hl1 : (ls ++ [zs]).length = ls.length + 1 := by simp
    have e : (List.range (ls ++ [zs]).length).map (elV (ls ++ [zs]) (fun i => if i < ls.length then f0 i else p) (fun i => if i < ls.length then c0 i else q)) = (List.range ls.length).map (elV ls f0 c0) ++ [.slice (some ⟨p, 0, none⟩) zs.length q] := by
      rw [hl1, List.range_succ, List.map_append]
      refine congr (congrArg _ ?_) ?_
      · refine List.map_congr_left fun i hi => ?_
        have hi' := List.mem_range.1 hi
        simp only [elV, if_pos hi', getD_snoc hi']
      · simp only [List.map_cons, List.map_nil, elV, if_neg (Nat.lt_irrefl _), getD_last]
    rw [e, hl1]
    exact hown1
  · rw [List.length_append, List.length_singleton] at hi
    by_cases hlt2 : i < ls.length
    · have h0 := he0 i hlt2
      obtain ⟨_, q1, q2, _⟩ := h0.1.cases1
      simp only [elV, if_pos hlt2, getD_snoc hlt2]
      refine ⟨h0.1.block (hblk _ (by omega) h0.2.2.1), by have := hgrow.size; omega, ?_, fun j hj => ?_⟩
      · rcases hgr with h | h
        · rw [h]; exact h0.2.2.1
        · omega
      · rw [if_pos (by omega)]; exact h0.2.2.2 j hj
    · obtain rfl : i = ls.length := by omega
      simp only [elV, if_neg hlt2, getD_last]
      refine ⟨hy.block (hblk p (by omega) (fun e => hpg e.symm)), by have := hgrow.size; omega, ?_, fun j hj => ?_⟩
      · rcases hgr with h | h <;> omega
      · rw [if_pos hj]
        intro e
        exact hf0X j hj (e ▸ hp)
  · rcases hgr with h | h
    · rw [h]; exact fun h2 => hg0X (hsub _ h2).1
    · rw [h]; exact fun h2 => by have := (hsub _ h2).2; omega
  · rw [List.length_append, List.length_singleton] at hi
    by_cases hlt2 : i < ls.length
    · simp only [if_pos hlt2]; exact fun h2 => hf0X i hlt2 (hsub _ h2).1
    · simp only [if_neg hlt2]; exact hpX
  · refine (Below.refl B W).grown hgrow hB (fun k hk => ?_)
    simp only [Value.ownBlock, Option.some.injEq] at hk
    omega
end
/-- What is read does not lie in block g. -/
theorem RdI.only {w w' : World} {b off n cap g : Nat} {zs : List Int} (h : RdI w (.slice (some ⟨b, off, none⟩) n cap) zs) (ho : Only g (g + 1) w w') (hb : b < w.heap.size) (hn : b ≠ g) : RdI w' (.slice (some ⟨b, off, none⟩) n cap) zs := by
  obtain ⟨ao, cp, hv, hcp, hr⟩ := h
  refine ⟨ao, cp, hv, hcp, ?_⟩
  rcases hr with hr | ⟨b', off', hao, hc⟩
  · exact .inl hr
  · rw [hao] at hv
    simp only [Value.slice.injEq, Option.some.injEq, Addr.mk.injEq, and_true] at hv
    obtain ⟨⟨rfl, rfl⟩, _⟩ := hv
    exact .inr ⟨b, off, hao, fun i hi => by rw [ho.cell (p := ⟨b, off + i, none⟩) hb (by simp only; omega)]; exact hc i hi⟩
theorem infoL : (Try.prog.info? 24).map (fun i => (i.zero, i.size, i.bytes)) = some (some (.slice none 0 0), 1, 24) := by kernel_rfl
theorem listS_under : Try.prog.underlying 115 = some (.slice 24) := Try.underlying115

end Go.Proofs.Ytlnjkjogedbhfaa
