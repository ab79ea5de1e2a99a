/- Lists of lists of wholes of the call's own. Conditions: none. -/
import Derived.Test.YtlnjkjogedbhfaaIWs
namespace Go.Proofs.Ytlnjkjogedbhfaa
open Go Go.RowKit
set_option linter.unusedSimpArgs false
set_option linter.unusedVariables false

/-- The elements: each lies in a part of memory of its own, apart from the block g. -/
structure ElSS (w : World) (lo hi g : Nat) (lss : List (List (List Int))) (L H : Nat → Nat) (u : Nat → Value) : Prop where
  own : ∀ i, i < lss.length → OwWs w (L i) (H i) (u i) (lss.getD i [])
  lo : ∀ i, i < lss.length → lo ≤ L i
  hi : ∀ i, i < lss.length → H i ≤ hi
  le : ∀ i, i < lss.length → L i ≤ H i
  g : ∀ i, i < lss.length → g < L i ∨ H i ≤ g
  apart : ∀ i j, i < j → j < lss.length → H i ≤ L j
/-- A list of lists of wholes of the call's own, in the blocks from lo on below hi. -/
def OwSS (w : World) (lo hi : Nat) (v : Value) (lss : List (List (List Int))) : Prop :=
  (v = .slice none 0 0 ∧ lss = []) ∨ ∃ g cap L H u, v = .slice (some ⟨g, 0, none⟩) lss.length cap ∧ (lss.length ≤ cap ∧ cap ≤ maxLen) ∧ lo ≤ g ∧ g < hi ∧ g < w.heap.size ∧ ElSS w lo hi g lss L H u ∧ ∀ i, i < lss.length → w.cell? ⟨g, i, none⟩ = some (u i)
/-- What reads as a list of lists of wholes. -/
def RdSS (w : World) (v : Value) (lss : List (List (List Int))) : Prop :=
  ∃ ao cap, v = .slice ao lss.length cap ∧ (lss.length ≤ cap ∧ cap ≤ maxLen) ∧ (lss = [] ∨ ∃ b, ao = some ⟨b, 0, none⟩ ∧ b < w.heap.size ∧ ∀ i, i < lss.length → ∃ u, w.cell? ⟨b, i, none⟩ = some u ∧ RdWs w u (lss.getD i []))
theorem RdSS.below {w w' : World} {v : Value} {lss : List (List (List Int))} (h : RdSS w v lss) (hb : Below w.heap.size w w') : RdSS w' v lss := by
  obtain ⟨ao, cap, hv, hcp, hr⟩ := h
  refine ⟨ao, cap, hv, hcp, ?_⟩
  rcases hr with hr | ⟨b, ha, hl, hc⟩
  · exact .inl hr
  · refine .inr ⟨b, ha, Nat.lt_of_lt_of_le hl hb.size, fun i hi => ?_⟩
    obtain ⟨u, h1, h2⟩ := hc i hi
    exact ⟨u, (hb.cell (p := ⟨b, i, none⟩) hl).trans h1, h2.below hb⟩
theorem RdSS.shape {w : World} {v : Value} {lss : List (List (List Int))} (h : RdSS w v lss) : ∃ ao cap, v = .slice ao lss.length cap := by
  obtain ⟨ao, cap, hv, _⟩ := h
  exact ⟨ao, cap, hv⟩
theorem OwSS.rd {w : World} {lo hi : Nat} {v : Value} {lss : List (List (List Int))} (h : OwSS w lo hi v lss) : RdSS w v lss := by
  rcases h with ⟨rfl, rfl⟩ | ⟨g, cap, L, H, u, rfl, hc, _, _, hg, he, hx⟩
  · exact ⟨none, 0, rfl, ⟨by simp, by simp [maxLen]⟩, .inl rfl⟩
  · exact ⟨_, cap, rfl, hc, .inr ⟨g, rfl, hg, fun i hi => ⟨_, hx i hi, (he.own i hi).rd⟩⟩⟩
theorem ElSS.kept {w w' : World} {lo hi g : Nat} {lss : List (List (List Int))} {L H : Nat → Nat} {u : Nat → Value} (h : ElSS w lo hi g lss L H u) (hs : w.heap.size ≤ w'.heap.size) (hb : ∀ i, i < lss.length → ∀ k, L i ≤ k → k < H i → k < w.heap.size → w'.heap[k]? = w.heap[k]?) : ElSS w' lo hi g lss L H u :=
  ⟨fun i hi => (h.own i hi).kept hs (hb i hi), h.lo, h.hi, h.le, h.g, h.apart⟩
theorem OwSS.kept {w w' : World} {lo hi : Nat} {v : Value} {lss : List (List (List Int))} (h : OwSS w lo hi v lss) (hs : w.heap.size ≤ w'.heap.size) (hb : ∀ k, lo ≤ k → k < hi → k < w.heap.size → w'.heap[k]? = w.heap[k]?) : OwSS w' lo hi v lss := by
  rcases h with h | ⟨g, cap, L, H, u, rfl, hc, h1, h2, h3, he, hx⟩
  · exact .inl h
  · refine .inr ⟨g, cap, L, H, u, rfl, hc, h1, h2, by omega, he.kept hs fun i hi k q1 q2 q3 => hb k (by have := he.lo i hi; omega) (by have := he.hi i hi; omega) q3, fun i hi => ?_⟩
    rw [World.cell?_of_block (w := w) (hb g h1 h2 h3)]; exact hx i hi
theorem OwSS.below {w w' : World} {lo hi : Nat} {v : Value} {lss : List (List (List Int))} (h : OwSS w lo hi v lss) (hb : Below w.heap.size w w') : OwSS w' lo hi v lss := h.kept hb.size fun k _ _ hk => hb.block k hk
theorem OwSS.only {w w' : World} {lo hi lo2 hi2 : Nat} {v : Value} {lss : List (List (List Int))} (h : OwSS w lo hi v lss) (ho : Only lo2 hi2 w w') (hd : hi ≤ lo2 ∨ hi2 ≤ lo) : OwSS w' lo hi v lss := h.kept ho.size fun k h1 h2 hk => ho.block k hk (by omega)
theorem ElSS.wide {w : World} {lo hi lo2 hi2 g : Nat} {lss : List (List (List Int))} {L H : Nat → Nat} {u : Nat → Value} (h : ElSS w lo hi g lss L H u) (h1 : lo2 ≤ lo) (h2 : hi ≤ hi2) : ElSS w lo2 hi2 g lss L H u :=
  ⟨h.own, fun i hi => Nat.le_trans h1 (h.lo i hi), fun i hi => Nat.le_trans (h.hi i hi) h2, h.le, h.g, h.apart⟩
theorem OwSS.wide {w : World} {lo hi lo2 hi2 : Nat} {v : Value} {lss : List (List (List Int))} (h : OwSS w lo hi v lss) (h1 : lo2 ≤ lo) (h2 : hi ≤ hi2) : OwSS w lo2 hi2 v lss := by
  rcases h with h | ⟨g, cap, L, H, u, rfl, hc, q1, q2, q3, he, hx⟩
  · exact .inl h
  · exact .inr ⟨g, cap, L, H, u, rfl, hc, by omega, by omega, q3, he.wide h1 h2, hx⟩

/-- A list of lists that is being built. -/
def RowSS (w : World) (B : Nat) (v : Value) (lss : List (List (List Int))) : Prop :=
  ∃ g cap L H u, v = .slice (some ⟨g, 0, none⟩) lss.length cap ∧ w.ownsRow B 52 1 v lss.length ((List.range lss.length).map u) ∧ g < w.heap.size ∧ B ≤ g ∧ ElSS w B w.heap.size g lss L H u
theorem RowSS.below {w w' : World} {B : Nat} {v : Value} {lss : List (List (List Int))} (h : RowSS w B v lss) (hb : Below w.heap.size w w') : RowSS w' B v lss := by
  obtain ⟨g, cap, L, H, u, hv, hr, hg, hB, he⟩ := h
  exact ⟨g, cap, L, H, u, hv, ownsRow_below hr hb, Nat.lt_of_lt_of_le hg hb.size, hB, (he.kept hb.size fun i hi k _ _ hk => hb.block k hk).wide (Nat.le_refl _) hb.size⟩
theorem RowSS.shape {w : World} {B : Nat} {v : Value} {lss : List (List (List Int))} (h : RowSS w B v lss) : ∃ g cap, v = .slice (some ⟨g, 0, none⟩) lss.length cap := by
  obtain ⟨g, cap, L, H, u, hv, _⟩ := h
  exact ⟨g, cap, hv⟩
theorem RowSS.empty {w : World} {B s : Nat} (hs : s = w.heap.size) (hB : B ≤ s) : RowSS (w.alloc (.cells #[] 52)) B (.slice (some ⟨s, 0, none⟩) 0 0) [] := by
  subst hs
  exact ⟨w.heap.size, 0, fun _ => 0, fun _ => 0, fun _ => .slice none 0 0, rfl, World.ownsRow_lit (base := B) (size := 1) w #[] 0 hB (by decide) rfl, by simp, hB,
    ⟨fun i hi => absurd hi (by simp), fun i hi => absurd hi (by simp), fun i hi => absurd hi (by simp), fun i hi => absurd hi (by simp), fun i hi => absurd hi (by simp), fun i j _ hj => absurd hj (by simp)⟩⟩
theorem RowSS.own {w : World} {B : Nat} {v : Value} {lss : List (List (List Int))} (h : RowSS w B v lss) : OwSS w B w.heap.size v lss := by
  obtain ⟨g, cap, L, H, u, rfl, hr, hg, hB, he⟩ := h
  rcases hr.2 with ⟨h, _⟩ | ⟨g', cap', cur, h1, h2, h3, h4, h5, h6, h7⟩
  · simp at h
  · simp only [Value.slice.injEq, Option.some.injEq, Addr.mk.injEq, and_true, true_and] at h1
    obtain ⟨rfl, rfl⟩ := h1
    refine .inr ⟨g, cap, L, H, u, rfl, ⟨h4, h5⟩, h2, hg, hg, he, fun i hi => ?_⟩
    rw [cell_of_row w g i cur _ (0, 0) h3]
    have := congrArg (·[i]?) h7
    simp only [List.getElem?_take, Nat.mul_one, if_pos hi, List.getElem?_map, List.getElem?_range hi, Option.map_some] at this
    simpa using this

theorem infoWS : (Try.prog.info? 52).map (fun i => (i.zero, i.size, i.bytes)) = some (some (.slice none 0 0), 1, 24) := by kernel_rfl
theorem getSS_snoc {lss : List (List (List Int))} {ls : List (List Int)} {i : Nat} (h : i < lss.length) : (lss ++ [ls]).getD i [] = lss.getD i [] := by
  simp only [List.getD]; rw [List.getElem?_append_left h]
theorem getSS_last {lss : List (List (List Int))} {ls : List (List Int)} : (lss ++ [ls]).getD lss.length [] = ls := by
  simp only [List.getD]; rw [List.getElem?_append_right (Nat.le_refl _)]; simp
section
variable {ops : Array Oper} {rest : List Oper} {o : Oper} {a : Act} {Q : Exit → Act → World → Prop}
/-- One list more, made behind the world W0 at which the row stood. -/
theorem wpList_pushSS {t : TypeId} {W0 W : World} {B E : Nat} {v : Value} {lss : List (List (List Int))} {ls : List (List Int)} {p : Option Addr} {n q : Nat} (hown : RowSS W0 B v lss) (hW0 : Below W0.heap.size W0 W)
    (hy : OwWs W W0.heap.size W.heap.size (.slice p n q) ls)
    (hgd : o.guard = none) (s x : Operand) (ho : o.op = .call { callee := .builtin .append, args := #[s, x], argTypes := #[t, t] })
    (ht : Try.prog.underlying t = some (.slice 52)) (hl : lss.length ≤ 1048576) (hB : B ≤ W0.heap.size)
    (hs : a.eval s = v) (hx : a.eval x = .slice (some ⟨E, 0, none⟩) 1 1) (hE : E = W.heap.size)
    (h : ∀ v' w', RowSS w' B v' (lss ++ [ls]) → Below B W w' → wpList Try.prog ops Q rest (a.put o.dst v') w') :
    wpList Try.prog ops Q (o :: rest) a (W.alloc (.cells #[.slice p n q] 52)) := by
  subst hE
  have hi2 := infoWS
  cases hi : Try.prog.info? 52 with
  | none => rw [hi] at hi2; cases hi2
  | some i =>
  rw [hi] at hi2
  simp only [Option.map_some, Option.some.injEq, Prod.mk.injEq] at hi2
  obtain ⟨g0, cap0, L0, H0, u0, hv0, hr0, hg0, hBg, he0⟩ := hown
  have hr := ownsRow_below hr0 hW0
  have hsz := hW0.size
  refine wpList_push hr i _ 24 hi hi2.1 hi2.2.1 hi2.2.2 rfl hgd s x t ho ht W (.slice p n q) hs hx rfl rfl (by unfold maxLen; omega) (by omega) (by omega) ?_
  intro g cap w1 hown1 hat hlt hgrow
  have hgr : g = g0 ∨ g = W.heap.size + 1 := by
    rcases hat with h | h
    · left; rw [hv0] at h; simp [Value.ownBlock] at h; exact h.symm
    · exact .inr h
  have hblk : ∀ k, k < W.heap.size → k ≠ g0 → w1.heap[k]? = W.heap[k]? := fun k hk hne => hgrow.block k hk (by rw [hv0]; simp [Value.ownBlock]; exact hne)
  have hs1 := hgrow.size
  refine h _ w1 ⟨g, cap, fun i => if i < lss.length then L0 i else W0.heap.size, fun i => if i < lss.length then H0 i else W.heap.size, fun i => if i < lss.length then u0 i else .slice p n q, by simp, ?_, hlt, by omega, ⟨fun i hi => ?_, fun i hi => ?_, fun i hi => ?_, fun i hi => ?_, fun i hi => ?_, fun i j hij hj => ?_⟩⟩ ?_
  · have hl1 : (lss ++ [ls]).length = lss.length + 1 := by simp
    have e : (List.range (lss ++ [ls]).length).map (fun i => if i < lss.length then u0 i else Value.slice p n q) = (List.range lss.length).map u0 ++ [.slice p n q] := by
      rw [hl1, List.range_succ, List.map_append]
      refine congr (congrArg _ ?_) ?_
      · exact List.map_congr_left fun i hi => by rw [if_pos (List.mem_range.1 hi)]
      · simp
    rw [e, hl1]
    exact hown1
  · by_cases h1 : i < lss.length
    · simp only [if_pos h1, getSS_snoc h1]
      have q1 := he0.hi i h1
      have q2 := he0.g i h1
      exact ((he0.own i h1).below hW0).kept hs1 fun k r1 r2 r3 => hblk k (by omega) (by omega)
    · obtain rfl : i = lss.length := by simp at hi; omega
      simp only [if_neg h1, getSS_last]
      exact hy.kept hs1 fun k r1 r2 r3 => hblk k (by omega) (by omega)
  · by_cases h1 : i < lss.length
    · simp only [if_pos h1]; exact he0.lo i h1
    · simp only [if_neg h1]; exact hB
  · by_cases h1 : i < lss.length
    · simp only [if_pos h1]; have := he0.hi i h1; omega
    · simp only [if_neg h1]; omega
  · by_cases h1 : i < lss.length
    · simp only [if_pos h1]; exact he0.le i h1
    · simp only [if_neg h1]; omega
  · by_cases h1 : i < lss.length
    · simp only [if_pos h1]; have q1 := he0.hi i h1; have q2 := he0.g i h1; omega
    · simp only [if_neg h1]; omega
  · simp at hj
    by_cases h1 : j < lss.length
    · simp only [if_pos h1, if_pos (show i < lss.length by omega)]; exact he0.apart i j hij h1
    · simp only [if_neg h1, if_pos (show i < lss.length by omega)]; exact he0.hi i (by omega)
  · refine (Below.refl B W).grown hgrow (by omega) (fun k hk => ?_)
    rw [hv0] at hk
    simp only [Value.ownBlock, Option.some.injEq] at hk
    omega
end
def RetSS (F : Option (List (List (List Int)))) (w : World) (e : Ending) (w' : World) : Prop := ∃ v, e = .returned (.tuple #[v, .bool F.isSome]) ∧ OwSS w' w.heap.size w'.heap.size v (F.getD []) ∧ Below w.heap.size w w'

end Go.Proofs.Ytlnjkjogedbhfaa
