/- Lists of wholes of the call's own. Conditions: none. -/
import Derived.Test.YtlnjkjogedbhfaaI14
import Derived.Test.YtlnjkjogedbhfaaIL2
namespace Go.Proofs.Ytlnjkjogedbhfaa
open Go Go.RowKit
set_option linter.unusedSimpArgs false
set_option linter.unusedVariables false

theorem OwI.cases1 {w : World} {B g n cap : Nat} {zs : List Int} (h : OwI w B (.slice (some ⟨g, 0, none⟩) n cap) zs) :
    n = zs.length ∧ B ≤ g ∧ g < w.heap.size ∧ ∃ cur, w.heap[g]? = some (.cells cur 2 (0, 0)) ∧ zs.length ≤ cap ∧ cap ≤ cur.size ∧ cur.size ≤ maxLen ∧ cur.toList.take zs.length = cellsI zs := by
  rcases h with ⟨h, _⟩ | ⟨g', cap', cur, h1, h2, h3, h4⟩
  · simp at h
  · simp only [Value.slice.injEq, Option.some.injEq, Addr.mk.injEq, and_true] at h1
    obtain ⟨rfl, rfl, rfl⟩ := h1
    exact ⟨rfl, h2, (Array.getElem?_eq_some_iff.1 h3).1, cur, h3, h4⟩
theorem OwI.here {w : World} {B g n cap : Nat} {zs : List Int} (h : OwI w B (.slice (some ⟨g, 0, none⟩) n cap) zs) : OwI w g (.slice (some ⟨g, 0, none⟩) n cap) zs := by
  obtain ⟨rfl, _, _, cur, h1, h2⟩ := h.cases1
  exact .inr ⟨g, cap, cur, rfl, Nat.le_refl _, h1, h2⟩
theorem OwI.block {w w' : World} {B g n cap : Nat} {zs : List Int} (h : OwI w B (.slice (some ⟨g, 0, none⟩) n cap) zs) (hb : w'.heap[g]? = w.heap[g]?) : OwI w' B (.slice (some ⟨g, 0, none⟩) n cap) zs := by
  obtain ⟨rfl, h0, _, cur, h1, h2⟩ := h.cases1
  exact .inr ⟨g, cap, cur, rfl, h0, by rw [hb]; exact h1, h2⟩

def elV (ls : List (List Int)) (f c : Nat → Nat) (i : Nat) : Value := .slice (some ⟨f i, 0, none⟩) (ls.getD i []).length (c i)
/-- The elements lie in blocks of their own, none of which is g. -/
def ElWs (w : World) (lo hi g : Nat) (ls : List (List Int)) (f c : Nat → Nat) : Prop :=
  ∀ i, i < ls.length → OwI w lo (elV ls f c i) (ls.getD i []) ∧ f i < hi ∧ f i ≠ g ∧ ∀ j, j < i → f j ≠ f i
/-- A list of wholes of the call's own, in the blocks from lo on below hi. -/
def OwWs (w : World) (lo hi : Nat) (v : Value) (ls : List (List Int)) : Prop :=
  (v = .slice none 0 0 ∧ ls = []) ∨ ∃ g cap f c, v = .slice (some ⟨g, 0, none⟩) ls.length cap ∧ (ls.length ≤ cap ∧ cap ≤ maxLen) ∧ lo ≤ g ∧ g < hi ∧ g < w.heap.size ∧ ElWs w lo hi g ls f c ∧ ∀ i, i < ls.length → w.cell? ⟨g, i, none⟩ = some (elV ls f c i)
theorem OwWs.rd {w : World} {lo hi : Nat} {v : Value} {ls : List (List Int)} (h : OwWs w lo hi v ls) : RdWs w v ls := by
  rcases h with ⟨rfl, rfl⟩ | ⟨g, cap, f, c, rfl, hc, _, _, _, he, hx⟩
  · exact ⟨none, 0, rfl, ⟨by simp, by simp [maxLen]⟩, .inl rfl⟩
  · exact ⟨_, cap, rfl, hc, .inr ⟨g, 0, rfl, fun i hi => ⟨_, by rw [Nat.zero_add]; exact hx i hi, (he i hi).1.rd⟩⟩⟩
theorem ElWs.kept {w w' : World} {lo hi g : Nat} {ls : List (List Int)} {f c : Nat → Nat} (h : ElWs w lo hi g ls f c) (hb : ∀ i, i < ls.length → w'.heap[f i]? = w.heap[f i]?) : ElWs w' lo hi g ls f c := fun i hi =>
  ⟨(h i hi).1.block (hb i hi), (h i hi).2⟩
theorem OwWs.kept {w w' : World} {lo hi : Nat} {v : Value} {ls : List (List Int)} (h : OwWs w lo hi v ls) (hs : w.heap.size ≤ w'.heap.size) (hb : ∀ k, lo ≤ k → k < hi → k < w.heap.size → w'.heap[k]? = w.heap[k]?) : OwWs w' lo hi v ls := by
  rcases h with h | ⟨g, cap, f, c, rfl, hc, h1, h2, h3, he, hx⟩
  · exact .inl h
  · refine .inr ⟨g, cap, f, c, rfl, hc, h1, h2, by omega, he.kept fun i hi => ?_, fun i hi => ?_⟩
    · obtain ⟨_, q1, q2, _⟩ := (he i hi).1.cases1
      exact hb _ q1 (he i hi).2.1 q2
    · rw [World.cell?_of_block (w := w) (hb g h1 h2 h3)]; exact hx i hi
theorem OwWs.below {w w' : World} {lo hi : Nat} {v : Value} {ls : List (List Int)} (h : OwWs w lo hi v ls) (hb : Below w.heap.size w w') : OwWs w' lo hi v ls := h.kept hb.size fun k _ _ hk => hb.block k hk
theorem OwWs.only {w w' : World} {lo hi lo2 hi2 : Nat} {v : Value} {ls : List (List Int)} (h : OwWs w lo hi v ls) (ho : Only lo2 hi2 w w') (hd : hi ≤ lo2 ∨ hi2 ≤ lo) : OwWs w' lo hi v ls := h.kept ho.size fun k h1 h2 hk => ho.block k hk (by omega)

/-- A list of wholes that is being built. -/
def RowV (w : World) (B : Nat) (v : Value) (ls : List (List Int)) : Prop :=
  ∃ g cap f c, v = .slice (some ⟨g, 0, none⟩) ls.length cap ∧ w.ownsRow B 27 1 v ls.length ((List.range ls.length).map (elV ls f c)) ∧ ElWs w B w.heap.size g ls f c
theorem RowV.below {w w' : World} {B : Nat} {v : Value} {ls : List (List Int)} (h : RowV w B v ls) (hb : Below w.heap.size w w') : RowV w' B v ls := by
  obtain ⟨g, cap, f, c, hv, hr, he⟩ := h
  refine ⟨g, cap, f, c, hv, ownsRow_below hr hb, fun i hi => ?_⟩
  have h := he i hi
  exact ⟨h.1.below hb, Nat.lt_of_lt_of_le h.2.1 hb.size, h.2.2⟩
theorem RowV.mono {w : World} {B B' : Nat} {v : Value} {ls : List (List Int)} (h : RowV w B v ls) (hb : B' ≤ B) : RowV w B' v ls := by
  obtain ⟨g, cap, f, c, hv, hr, he⟩ := h
  refine ⟨g, cap, f, c, hv, ⟨hr.1, ?_⟩, fun i hi => ⟨(he i hi).1.mono hb, (he i hi).2⟩⟩
  rcases hr.2 with h | ⟨g', cap', cur, h1, h2, h3⟩
  · exact .inl h
  · exact .inr ⟨g', cap', cur, h1, by omega, h3⟩
theorem RowV.shape {w : World} {B : Nat} {v : Value} {ls : List (List Int)} (h : RowV w B v ls) : ∃ g cap, v = .slice (some ⟨g, 0, none⟩) ls.length cap := by
  obtain ⟨g, cap, f, c, hv, _⟩ := h
  exact ⟨g, cap, hv⟩
theorem RowV.empty {w : World} {B s : Nat} (hs : s = w.heap.size) (hB : B ≤ s) : RowV (w.alloc (.cells #[] 27)) B (.slice (some ⟨s, 0, none⟩) 0 0) [] := by
  subst hs
  exact ⟨w.heap.size, 0, fun _ => 0, fun _ => 0, rfl, World.ownsRow_lit (base := B) (size := 1) w #[] 0 hB (by decide) rfl, fun i hi => absurd hi (by simp)⟩
theorem RowV.own {w : World} {B : Nat} {v : Value} {ls : List (List Int)} (h : RowV w B v ls) : OwWs w B w.heap.size v ls := by
  obtain ⟨g, cap, f, c, rfl, hr, he⟩ := h
  rcases hr.2 with ⟨h, _⟩ | ⟨g', cap', cur, h1, h2, h3, h4, h5, h6, h7⟩
  · simp at h
  · simp only [Value.slice.injEq, Option.some.injEq, Addr.mk.injEq, and_true, true_and] at h1
    obtain ⟨rfl, rfl⟩ := h1
    have hg := (Array.getElem?_eq_some_iff.1 h3).1
    refine .inr ⟨g, cap, f, c, rfl, ⟨h4, h5⟩, h2, hg, hg, he, fun i hi => ?_⟩
    rw [cell_of_row w g i cur _ (0, 0) h3]
    have := congrArg (·[i]?) h7
    simp only [List.getElem?_take, Nat.mul_one, if_pos hi, List.getElem?_map, List.getElem?_range hi, Option.map_some] at this
    simpa using this

theorem infoW : (Try.prog.info? 27).map (fun i => (i.zero, i.size, i.bytes)) = some (some (.agg #[.slice none 0 0]), 1, 24) := by kernel_rfl
theorem wholeS_under : Try.prog.underlying 52 = some (.slice 27) := Try.underlying52
theorem getD_snoc {ls : List (List Int)} {zs : List Int} {i : Nat} (h : i < ls.length) : (ls ++ [zs]).getD i [] = ls.getD i [] := by
  simp only [List.getD]; rw [List.getElem?_append_left h]
theorem getD_last {ls : List (List Int)} {zs : List Int} : (ls ++ [zs]).getD ls.length [] = zs := by
  simp only [List.getD]; rw [List.getElem?_append_right (Nat.le_refl _)]; simp
section
variable {ops : Array Oper} {rest : List Oper} {o : Oper} {a : Act} {Q : Exit → Act → World → Prop}
/-- One whole more, made behind the world W0 at which the row stood. -/
theorem wpList_pushW {t : TypeId} {W0 W : World} {B E : Nat} {v : Value} {ls : List (List Int)} {p n q : Nat} {zs : List Int} (hown : RowV W0 B v ls) (hW0 : Below W0.heap.size W0 W) (hp : W0.heap.size ≤ p)
    (hy : OwI W B (.slice (some ⟨p, 0, none⟩) n q) zs)
    (hgd : o.guard = none) (s x : Operand) (ho : o.op = .call { callee := .builtin .append, args := #[s, x], argTypes := #[t, t] })
    (ht : Try.prog.underlying t = some (.slice 27)) (hl : ls.length ≤ 1048576) (hB : B ≤ W.heap.size)
    (hs : a.eval s = v) (hx : a.eval x = .slice (some ⟨E, 0, none⟩) 1 1) (hE : E = W.heap.size)
    (h : ∀ v' w', RowV w' B v' (ls ++ [zs]) → Below B W w' → (∀ k, W0.heap.size ≤ k → k < W.heap.size → w'.heap[k]? = W.heap[k]?) → wpList Try.prog ops Q rest (a.put o.dst v') w') :
    wpList Try.prog ops Q (o :: rest) a (W.alloc (.cells #[.slice (some ⟨p, 0, none⟩) n q] 27)) := by
  subst hE
  have hi2 := infoW
  cases hi : Try.prog.info? 27 with
  | none => rw [hi] at hi2; cases hi2
  | some i =>
  rw [hi] at hi2
  simp only [Option.map_some, Option.some.injEq, Prod.mk.injEq] at hi2
  obtain ⟨g0, cap0, f0, c0, hv0, hr0, he0⟩ := hown
  have hg0 : g0 < W0.heap.size := by
    rcases hr0.2 with ⟨h, _⟩ | ⟨g', cap', cur, h1, _, h3, _⟩
    · rw [hv0] at h; simp at h
    · rw [hv0] at h1
      simp only [Value.slice.injEq, Option.some.injEq, Addr.mk.injEq, and_true, true_and] at h1
      rw [h1.1]
      exact (Array.getElem?_eq_some_iff.1 h3).1
  have hr := ownsRow_below hr0 hW0
  have hsz := hW0.size
  obtain ⟨rfl, hy1, hy2, _⟩ := hy.cases1
  refine wpList_push hr i _ 24 hi hi2.1 hi2.2.1 hi2.2.2 rfl hgd s x t ho ht W (.slice (some ⟨p, 0, none⟩) zs.length q) hs hx rfl rfl (by unfold maxLen; omega) (by omega) hB ?_
  intro g cap w1 hown1 hat hlt hgrow
  have hgr : g = g0 ∨ g = W.heap.size + 1 := by
    rcases hat with h | h
    · left; rw [hv0] at h; simp [Value.ownBlock] at h; exact h.symm
    · exact .inr h
  have hblk : ∀ k, k < W.heap.size → k ≠ g0 → w1.heap[k]? = W.heap[k]? := fun k hk hne => hgrow.block k hk (by rw [hv0]; simp [Value.ownBlock]; exact hne)
  refine h _ w1 ⟨g, cap, fun i => if i < ls.length then f0 i else p, fun i => if i < ls.length then c0 i else q, by simp, ?_, fun i hi => ?_⟩ ?_ (fun k h1 h2 => hblk k h2 (by omega))
  · have hl1 : (ls ++ [zs]).length = ls.length + 1 := by simp
    have e : (List.range (ls ++ [zs]).length).map (elV (ls ++ [zs]) (fun i => if i < ls.length then f0 i else p) (fun i => if i < ls.length then c0 i else q)) = (List.range ls.length).map (elV ls f0 c0) ++ [.slice (some ⟨p, 0, none⟩) zs.length q] := by
      rw [hl1, List.range_succ, List.map_append]
      refine congr (congrArg _ ?_) ?_
      · refine List.map_congr_left fun i hi => ?_
        have hi' := List.mem_range.1 hi
        simp only [elV, if_pos hi', getD_snoc hi']
      · simp only [List.map_cons, List.map_nil, elV, if_neg (Nat.lt_irrefl _), getD_last]
    rw [e, hl1]
    exact hown1
  · rw [List.length_append, List.length_singleton] at hi
    by_cases hlt2 : i < ls.length
    · have h0 := he0 i hlt2
      obtain ⟨_, q1, q2, _⟩ := h0.1.cases1
      simp only [elV, if_pos hlt2, getD_snoc hlt2]
      refine ⟨(h0.1.below hW0).block (hblk _ (by omega) h0.2.2.1), by have := hgrow.size; omega, ?_, fun j hj => ?_⟩
      · rcases hgr with h | h
        · rw [h]; exact h0.2.2.1
        · omega
      · rw [if_pos (by omega)]; exact h0.2.2.2 j hj
    · obtain rfl : i = ls.length := by omega
      simp only [elV, if_neg hlt2, getD_last]
      refine ⟨hy.block (hblk p (by omega) (by omega)), by have := hgrow.size; omega, ?_, fun j hj => ?_⟩
      · rcases hgr with h | h <;> omega
      · rw [if_pos hj]
        have h0 := he0 j hj
        obtain ⟨_, q1, q2, _⟩ := h0.1.cases1
        omega
  · refine (Below.refl B W).grown hgrow hB (fun k hk => ?_)
    rw [hv0] at hk
    simp only [Value.ownBlock, Option.some.injEq] at hk
    rcases hr0.2 with ⟨h, _⟩ | ⟨g', cap', cur, h1, h2, _⟩
    · rw [hv0] at h; simp at h
    · rw [hv0] at h1
      simp only [Value.slice.injEq, Option.some.injEq, Addr.mk.injEq, and_true, true_and] at h1
      omega
/-- The same, of all other blocks: one whole more, made behind the world W0 at which the row stood. -/
theorem wpList_pushW2 {t : TypeId} {W0 W : World} {B E : Nat} {v : Value} {ls : List (List Int)} {p n q : Nat} {zs : List Int} (hown : RowV W0 B v ls) (hW0 : Below W0.heap.size W0 W) (hp : W0.heap.size ≤ p)
    (hy : OwI W B (.slice (some ⟨p, 0, none⟩) n q) zs)
    (hgd : o.guard = none) (s x : Operand) (ho : o.op = .call { callee := .builtin .append, args := #[s, x], argTypes := #[t, t] })
    (ht : Try.prog.underlying t = some (.slice 27)) (hl : ls.length ≤ 1048576) (hB : B ≤ W.heap.size)
    (hs : a.eval s = v) (hx : a.eval x = .slice (some ⟨E, 0, none⟩) 1 1) (hE : E = W.heap.size)
    (h : ∀ v' w', RowV w' B v' (ls ++ [zs]) → Below B W w' → (∀ k, k < W.heap.size → v.ownBlock ≠ some k → w'.heap[k]? = W.heap[k]?) → wpList Try.prog ops Q rest (a.put o.dst v') w') :
    wpList Try.prog ops Q (o :: rest) a (W.alloc (.cells #[.slice (some ⟨p, 0, none⟩) n q] 27)) := by
  subst hE
  have hi2 := infoW
  cases hi : Try.prog.info? 27 with
  | none => rw [hi] at hi2; cases hi2
  | some i =>
  rw [hi] at hi2
  simp only [Option.map_some, Option.some.injEq, Prod.mk.injEq] at hi2
  obtain ⟨g0, cap0, f0, c0, hv0, hr0, he0⟩ := hown
  have hg0 : g0 < W0.heap.size := by
    rcases hr0.2 with ⟨h, _⟩ | ⟨g', cap', cur, h1, _, h3, _⟩
    · rw [hv0] at h; simp at h
    · rw [hv0] at h1
      simp only [Value.slice.injEq, Option.some.injEq, Addr.mk.injEq, and_true, true_and] at h1
      rw [h1.1]
      exact (Array.getElem?_eq_some_iff.1 h3).1
  have hr := ownsRow_below hr0 hW0
  have hsz := hW0.size
  obtain ⟨rfl, hy1, hy2, _⟩ := hy.cases1
  refine wpList_push hr i _ 24 hi hi2.1 hi2.2.1 hi2.2.2 rfl hgd s x t ho ht W (.slice (some ⟨p, 0, none⟩) zs.length q) hs hx rfl rfl (by unfold maxLen; omega) (by omega) hB ?_
  intro g cap w1 hown1 hat hlt hgrow
  have hgr : g = g0 ∨ g = W.heap.size + 1 := by
    rcases hat with h | h
    · left; rw [hv0] at h; simp [Value.ownBlock] at h; exact h.symm
    · exact .inr h
  have hblk : ∀ k, k < W.heap.size → k ≠ g0 → w1.heap[k]? = W.heap[k]? := fun k hk hne => hgrow.block k hk (by rw [hv0]; simp [Value.ownBlock]; exact hne)
  refine h _ w1 ⟨g, cap, fun i => if i < ls.length then f0 i else p, fun i => if i < ls.length then c0 i else q, by simp, ?_, fun i hi => ?_⟩ ?_ (fun k h1 h2 => hblk k h1 (by intro h; rw [hv0, h] at h2; exact h2 rfl))
  · have hl1 : (ls ++ [zs]).length = ls.length + 1 := by simp
    have e : (List.range (ls ++ [zs]).length).map (elV (ls ++ [zs]) (fun i => if i < ls.length then f0 i else p) (fun i => if i < ls.length then c0 i else q)) = (List.range ls.length).map (elV ls f0 c0) ++ [.slice (some ⟨p, 0, none⟩) zs.length q] := by
      rw [hl1, List.range_succ, List.map_append]
      refine congr (congrArg _ ?_) ?_
      · refine List.map_congr_left fun i hi => ?_
        have hi' := List.mem_range.1 hi
        simp only [elV, if_pos hi', getD_snoc hi']
      · simp only [List.map_cons, List.map_nil, elV, if_neg (Nat.lt_irrefl _), getD_last]
    rw [e, hl1]
    exact hown1
  · rw [List.length_append, List.length_singleton] at hi
    by_cases hlt2 : i < ls.length
    · have h0 := he0 i hlt2
      obtain ⟨_, q1, q2, _⟩ := h0.1.cases1
      simp only [elV, if_pos hlt2, getD_snoc hlt2]
      refine ⟨(h0.1.below hW0).block (hblk _ (by omega) h0.2.2.1), by have := hgrow.size; omega, ?_, fun j hj => ?_⟩
      · rcases hgr with h | h
        · rw [h]; exact h0.2.2.1
        · omega
      · rw [if_pos (by omega)]; exact h0.2.2.2 j hj
    · obtain rfl : i = ls.length := by omega
      simp only [elV, if_neg hlt2, getD_last]
      refine ⟨hy.block (hblk p (by omega) (by omega)), by have := hgrow.size; omega, ?_, fun j hj => ?_⟩
      · rcases hgr with h | h <;> omega
      · rw [if_pos hj]
        have h0 := he0 j hj
        obtain ⟨_, q1, q2, _⟩ := h0.1.cases1
        omega
  · refine (Below.refl B W).grown hgrow hB (fun k hk => ?_)
    rw [hv0] at hk
    simp only [Value.ownBlock, Option.some.injEq] at hk
    rcases hr0.2 with ⟨h, _⟩ | ⟨g', cap', cur, h1, h2, _⟩
    · rw [hv0] at h; simp at h
    · rw [hv0] at h1
      simp only [Value.slice.injEq, Option.some.injEq, Addr.mk.injEq, and_true, true_and] at h1
      omega
end
theorem OwWs.mono {w : World} {lo lo' hi : Nat} {v : Value} {ls : List (List Int)} (h : OwWs w lo hi v ls) (hl : lo' ≤ lo) : OwWs w lo' hi v ls := by
  rcases h with h | ⟨g, cap, f, c, hv, hc, h1, h2, h3, he, hx⟩
  · exact .inl h
  · exact .inr ⟨g, cap, f, c, hv, hc, by omega, h2, h3, fun i hi => ⟨(he i hi).1.mono hl, (he i hi).2⟩, hx⟩
theorem OwWs.wide {w : World} {lo lo' hi hi' : Nat} {v : Value} {ls : List (List Int)} (h : OwWs w lo hi v ls) (hl : lo' ≤ lo) (hh : hi ≤ hi') : OwWs w lo' hi' v ls := by
  rcases h with h | ⟨g, cap, f, c, hv, hc, h1, h2, h3, he, hx⟩
  · exact .inl h
  · exact .inr ⟨g, cap, f, c, hv, hc, by omega, by omega, h3, fun i hi => ⟨(he i hi).1.mono hl, Nat.lt_of_lt_of_le (he i hi).2.1 hh, (he i hi).2.2⟩, hx⟩
/-- A list, or none. -/
def RetWs (F : Option (List (List Int))) (w : World) (e : Ending) (w' : World) : Prop := ∃ v, e = .returned (.tuple #[v, .bool F.isSome]) ∧ OwWs w' w.heap.size w'.heap.size v (F.getD []) ∧ Below w.heap.size w w'

end Go.Proofs.Ytlnjkjogedbhfaa
