/- Lists of lists of wholes of the call's own. Conditions: none. -/
import Derived.Test.YtlnjkjogedbhfaaIWs
import Derived.Test.YtlnjkjogedbhfaaIGx
import Derived.Deep.DeepMust
namespace Go.Proofs.Ytlnjkjogedbhfaa
open Go Go.RowKit
set_option linter.unusedSimpArgs false
set_option linter.unusedVariables false
set_option linter.unusedSimpArgs false
set_option linter.unusedVariables false

/-- The elements: each lies in a part of memory of its own, apart from the block g. -/
structure ElSS (w : World) (lo hi g : Nat) (lss : List (List (List Int))) (L H : Nat → Nat) (u : Nat → Value) : Prop where
  own : ∀ i, i < lss.length → OwWs w (L i) (H i) (u i) (lss.getD i [])
  lo : ∀ i, i < lss.length → lo ≤ L i
  hi : ∀ i, i < lss.length → H i ≤ hi
  le : ∀ i, i < lss.length → L i ≤ H i
  g : ∀ i, i < lss.length → g < L i ∨ H i ≤ g
  apart : ∀ i j, i < j → j < lss.length → H i ≤ L j
/-- A list of lists of wholes of the call's own, in the blocks from lo on below hi. -/
def OwSS (w : World) (lo hi : Nat) (v : Value) (lss : List (List (List Int))) : Prop :=
  (v = .slice none 0 0 ∧ lss = []) ∨ ∃ g cap L H u, v = .slice (some ⟨g, 0, none⟩) lss.length cap ∧ (lss.length ≤ cap ∧ cap ≤ maxLen) ∧ lo ≤ g ∧ g < hi ∧ g < w.heap.size ∧ ElSS w lo hi g lss L H u ∧ ∀ i, i < lss.length → w.cell? ⟨g, i, none⟩ = some (u i)
/-- What reads as a list of lists of wholes. -/
def RdSS (w : World) (v : Value) (lss : List (List (List Int))) : Prop :=
  ∃ ao cap, v = .slice ao lss.length cap ∧ (lss.length ≤ cap ∧ cap ≤ maxLen) ∧ (lss = [] ∨ ∃ b, ao = some ⟨b, 0, none⟩ ∧ b < w.heap.size ∧ ∀ i, i < lss.length → ∃ u, w.cell? ⟨b, i, none⟩ = some u ∧ RdWs w u (lss.getD i []))
theorem RdSS.below {w w' : World} {v : Value} {lss : List (List (List Int))} (h : RdSS w v lss) (hb : Below w.heap.size w w') : RdSS w' v lss := by
  obtain ⟨ao, cap, hv, hcp, hr⟩ := h
  refine ⟨ao, cap, hv, hcp, ?_⟩
  rcases hr with hr | ⟨b, ha, hl, hc⟩
  · exact .inl hr
  · refine .inr ⟨b, ha, Nat.lt_of_lt_of_le hl hb.size, fun i hi => ?_⟩
    obtain ⟨u, h1, h2⟩ := hc i hi
    exact ⟨u, (hb.cell (p := ⟨b, i, none⟩) hl).trans h1, h2.below hb⟩
theorem RdSS.shape {w : World} {v : Value} {lss : List (List (List Int))} (h : RdSS w v lss) : ∃ ao cap, v = .slice ao lss.length cap := by
  obtain ⟨ao, cap, hv, _⟩ := h
  exact ⟨ao, cap, hv⟩
theorem OwSS.rd {w : World} {lo hi : Nat} {v : Value} {lss : List (List (List Int))} (h : OwSS w lo hi v lss) : RdSS w v lss := by
  rcases h with ⟨rfl, rfl⟩ | ⟨g, cap, L, H, u, rfl, hc, _, _, hg, he, hx⟩
  · exact ⟨none, 0, rfl, ⟨by simp, by simp [maxLen]⟩, .inl rfl⟩
  · exact ⟨_, cap, rfl, hc, .inr ⟨g, rfl, hg, fun i hi => ⟨_, hx i hi, (he.own i hi).rd⟩⟩⟩
theorem ElSS.kept {w w' : World} {lo hi g : Nat} {lss : List (List (List Int))} {L H : Nat → Nat} {u : Nat → Value} (h : ElSS w lo hi g lss L H u) (hs : w.heap.size ≤ w'.heap.size) (hb : ∀ i, i < lss.length → ∀ k, L i ≤ k → k < H i → k < w.heap.size → w'.heap[k]? = w.heap[k]?) : ElSS w' lo hi g lss L H u :=
  ⟨fun i hi => (h.own i hi).kept hs (hb i hi), h.lo, h.hi, h.le, h.g, h.apart⟩
theorem OwSS.kept {w w' : World} {lo hi : Nat} {v : Value} {lss : List (List (List Int))} (h : OwSS w lo hi v lss) (hs : w.heap.size ≤ w'.heap.size) (hb : ∀ k, lo ≤ k → k < hi → k < w.heap.size → w'.heap[k]? = w.heap[k]?) : OwSS w' lo hi v lss := by
  rcases h with h | ⟨g, cap, L, H, u, rfl, hc, h1, h2, h3, he, hx⟩
  · exact .inl h
  · refine .inr ⟨g, cap, L, H, u, rfl, hc, h1, h2, by omega, he.kept hs fun i hi k q1 q2 q3 => hb k (by have := he.lo i hi; omega) (by have := he.hi i hi; omega) q3, fun i hi => ?_⟩
    rw [World.cell?_of_block (w := w) (hb g h1 h2 h3)]; exact hx i hi
theorem OwSS.below {w w' : World} {lo hi : Nat} {v : Value} {lss : List (List (List Int))} (h : OwSS w lo hi v lss) (hb : Below w.heap.size w w') : OwSS w' lo hi v lss := h.kept hb.size fun k _ _ hk => hb.block k hk
theorem OwSS.only {w w' : World} {lo hi lo2 hi2 : Nat} {v : Value} {lss : List (List (List Int))} (h : OwSS w lo hi v lss) (ho : Only lo2 hi2 w w') (hd : hi ≤ lo2 ∨ hi2 ≤ lo) : OwSS w' lo hi v lss := h.kept ho.size fun k h1 h2 hk => ho.block k hk (by omega)
theorem ElSS.wide {w : World} {lo hi lo2 hi2 g : Nat} {lss : List (List (List Int))} {L H : Nat → Nat} {u : Nat → Value} (h : ElSS w lo hi g lss L H u) (h1 : lo2 ≤ lo) (h2 : hi ≤ hi2) : ElSS w lo2 hi2 g lss L H u :=
  ⟨h.own, fun i hi => Nat.le_trans h1 (h.lo i hi), fun i hi => Nat.le_trans (h.hi i hi) h2, h.le, h.g, h.apart⟩
theorem OwSS.wide {w : World} {lo hi lo2 hi2 : Nat} {v : Value} {lss : List (List (List Int))} (h : OwSS w lo hi v lss) (h1 : lo2 ≤ lo) (h2 : hi ≤ hi2) : OwSS w lo2 hi2 v lss := by
  rcases h with h | ⟨g, cap, L, H, u, rfl, hc, q1, q2, q3, he, hx⟩
  · exact .inl h
  · exact .inr ⟨g, cap, L, H, u, rfl, hc, by omega, by omega, q3, he.wide h1 h2, hx⟩

/-- A list of lists that is being built. -/
def RowSS (w : World) (B : Nat) (v : Value) (lss : List (List (List Int))) : Prop :=
  ∃ g cap L H u, v = .slice (some ⟨g, 0, none⟩) lss.length cap ∧ w.ownsRow B 52 1 v lss.length ((List.range lss.length).map u) ∧ g < w.heap.size ∧ B ≤ g ∧ ElSS w B w.heap.size g lss L H u
theorem RowSS.below {w w' : World} {B : Nat} {v : Value} {lss : List (List (List Int))} (h : RowSS w B v lss) (hb : Below w.heap.size w w') : RowSS w' B v lss := by
  obtain ⟨g, cap, L, H, u, hv, hr, hg, hB, he⟩ := h
  exact ⟨g, cap, L, H, u, hv, ownsRow_below hr hb, Nat.lt_of_lt_of_le hg hb.size, hB, (he.kept hb.size fun i hi k _ _ hk => hb.block k hk).wide (Nat.le_refl _) hb.size⟩
theorem RowSS.shape {w : World} {B : Nat} {v : Value} {lss : List (List (List Int))} (h : RowSS w B v lss) : ∃ g cap, v = .slice (some ⟨g, 0, none⟩) lss.length cap := by
  obtain ⟨g, cap, L, H, u, hv, _⟩ := h
  exact ⟨g, cap, hv⟩
theorem RowSS.empty {w : World} {B s : Nat} (hs : s = w.heap.size) (hB : B ≤ s) : RowSS (w.alloc (.cells #[] 52)) B (.slice (some ⟨s, 0, none⟩) 0 0) [] := by
  subst hs
  exact ⟨w.heap.size, 0, fun _ => 0, fun _ => 0, fun _ => .slice none 0 0, rfl, World.ownsRow_lit (base := B) (size := 1) w #[] 0 hB (by decide) rfl, by simp, hB,
    ⟨fun i hi => absurd hi (by simp), fun i hi => absurd hi (by simp), fun i hi => absurd hi (by simp), fun i hi => absurd hi (by simp), fun i hi => absurd hi (by simp), fun i j _ hj => absurd hj (by simp)⟩⟩
theorem RowSS.own {w : World} {B : Nat} {v : Value} {lss : List (List (List Int))} (h : RowSS w B v lss) : OwSS w B w.heap.size v lss := by
  obtain ⟨g, cap, L, H, u, rfl, hr, hg, hB, he⟩ := h
  rcases hr.2 with ⟨h, _⟩ | ⟨g', cap', cur, h1, h2, h3, h4, h5, h6, h7⟩
  · simp at h
  · simp only [Value.slice.injEq, Option.some.injEq, Addr.mk.injEq, and_true, true_and] at h1
    obtain ⟨rfl, rfl⟩ := h1
    refine .inr ⟨g, cap, L, H, u, rfl, ⟨h4, h5⟩, h2, hg, hg, he, fun i hi => ?_⟩
    rw [cell_of_row w g i cur _ (0, 0) h3]
    have := congrArg (·[i]?) h7
    simp only [List.getElem?_take, Nat.mul_one, if_pos hi, List.getElem?_map, List.getElem?_range hi, Option.map_some] at this
    simpa using this

theorem infoWS : (Try.prog.info? 52).map (fun i => (i.zero, i.size, i.bytes)) = some (some (.slice none 0 0), 1, 24) := by kernel_rfl
theorem getSS_snoc {lss : List (List (List Int))} {ls : List (List Int)} {i : Nat} (h : i < lss.length) : (lss ++ [ls]).getD i [] = lss.getD i [] := by
  simp only [List.getD]; rw [List.getElem?_append_left h]
theorem getSS_last {lss : List (List (List Int))} {ls : List (List Int)} : (lss ++ [ls]).getD lss.length [] = ls := by
  simp only [List.getD]; rw [List.getElem?_append_right (Nat.le_refl _)]; simp
section
variable {ops : Array Oper} {rest : List Oper} {o : Oper} {a : Act} {Q : Exit → Act → World → Prop}
/-- One list more, made behind the world W0 at which the row stood. -/
theorem wpList_pushSS {t : TypeId} {W0 W : World} {B E : Nat} {v : Value} {lss : List (List (List Int))} {ls : List (List Int)} {p : Option Addr} {n q : Nat} (hown : RowSS W0 B v lss) (hW0 : Below W0.heap.size W0 W)
    (hy : OwWs W W0.heap.size W.heap.size (.slice p n q) ls)
    (hgd : o.guard = none) (s x : Operand) (ho : o.op = .call { callee := .builtin .append, args := #[s, x], argTypes := #[t, t] })
    (ht : Try.prog.underlying t = some (.slice 52)) (hl : lss.length ≤ 1048576) (hB : B ≤ W0.heap.size)
    (hs : a.eval s = v) (hx : a.eval x = .slice (some ⟨E, 0, none⟩) 1 1) (hE : E = W.heap.size)
    (h : ∀ v' w', RowSS w' B v' (lss ++ [ls]) → Below B W w' → wpList Try.prog ops Q rest (a.put o.dst v') w') :
    wpList Try.prog ops Q (o :: rest) a (W.alloc (.cells #[.slice p n q] 52)) := by
  subst hE
  have hi2 := infoWS
  cases hi : Try.prog.info? 52 with
  | none => rw [hi] at hi2; cases hi2
  | some i =>
  rw [hi] at hi2
  simp only [Option.map_some, Option.some.injEq, Prod.mk.injEq] at hi2
  obtain ⟨g0, cap0, L0, H0, u0, hv0, hr0, hg0, hBg, he0⟩ := hown
  have hr := ownsRow_below hr0 hW0
  have hsz := hW0.size
  refine wpList_push hr i _ 24 hi hi2.1 hi2.2.1 hi2.2.2 rfl hgd s x t ho ht W (.slice p n q) hs hx rfl rfl (by unfold maxLen; omega) (by omega) (by omega) ?_
  intro g cap w1 hown1 hat hlt hgrow
  have hgr : g = g0 ∨ g = W.heap.size + 1 := by
    rcases hat with h | h
    · left; rw [hv0] at h; simp [Value.ownBlock] at h; exact h.symm
    · exact .inr h
  have hblk : ∀ k, k < W.heap.size → k ≠ g0 → w1.heap[k]? = W.heap[k]? := fun k hk hne => hgrow.block k hk (by rw [hv0]; simp [Value.ownBlock]; exact hne)
  have hs1 := hgrow.size
  refine h _ w1 ⟨g, cap, fun i => if i < lss.length then L0 i else W0.heap.size, fun i => if i < lss.length then H0 i else W.heap.size, fun i => if i < lss.length then u0 i else .slice p n q, by simp, ?_, hlt, by omega, ⟨fun i hi => ?_, fun i hi => ?_, fun i hi => ?_, fun i hi => ?_, fun i hi => ?_, fun i j hij hj => ?_⟩⟩ ?_
  · have hl1 : (lss ++ [ls]).length = lss.length + 1 := by simp
    have e : (List.range (lss ++ [ls]).length).map (fun i => if i < lss.length then u0 i else Value.slice p n q) = (List.range lss.length).map u0 ++ [.slice p n q] := by
      rw [hl1, List.range_succ, List.map_append]
      refine congr (congrArg _ ?_) ?_
      · exact List.map_congr_left fun i hi => by rw [if_pos (List.mem_range.1 hi)]
      · simp
    rw [e, hl1]
    exact hown1
  · by_cases h1 : i < lss.length
    · simp only [if_pos h1, getSS_snoc h1]
      have q1 := he0.hi i h1
      have q2 := he0.g i h1
      exact ((he0.own i h1).below hW0).kept hs1 fun k r1 r2 r3 => hblk k (by omega) (by omega)
    · obtain rfl : i = lss.length := by simp at hi; omega
      simp only [if_neg h1, getSS_last]
      exact hy.kept hs1 fun k r1 r2 r3 => hblk k (by omega) (by omega)
  · by_cases h1 : i < lss.length
    · simp only [if_pos h1]; exact he0.lo i h1
    · simp only [if_neg h1]; exact hB
  · by_cases h1 : i < lss.length
    · simp only [if_pos h1]; have := he0.hi i h1; omega
    · simp only [if_neg h1]; omega
  · by_cases h1 : i < lss.length
    · simp only [if_pos h1]; exact he0.le i h1
    · simp only [if_neg h1]; omega
  · by_cases h1 : i < lss.length
    · simp only [if_pos h1]; have q1 := he0.hi i h1; have q2 := he0.g i h1; omega
    · simp only [if_neg h1]; omega
  · simp at hj
    by_cases h1 : j < lss.length
    · simp only [if_pos h1, if_pos (show i < lss.length by omega)]; exact he0.apart i j hij h1
    · simp only [if_neg h1, if_pos (show i < lss.length by omega)]; exact he0.hi i (by omega)
  · refine (Below.refl B W).grown hgrow (by omega) (fun k hk => ?_)
    rw [hv0] at hk
    simp only [Value.ownBlock, Option.some.injEq] at hk
    omega
end
def RetSS (F : Option (List (List (List Int)))) (w : World) (e : Ending) (w' : World) : Prop := ∃ v, e = .returned (.tuple #[v, .bool F.isSome]) ∧ OwSS w' w.heap.size w'.heap.size v (F.getD []) ∧ Below w.heap.size w w'

end Go.Proofs.Ytlnjkjogedbhfaa

/- FactorsShared of the program. Conditions: lengths of at most 2^40. -/
namespace Go.Proofs.Ytlnjkjogedbhfaa
open Go Go.RowKit
set_option linter.unusedSimpArgs false
set_option linter.unusedVariables false
set_option linter.unusedSimpArgs false
set_option linter.unusedVariables false

/-- The factors of each of a list. -/
noncomputable def facS (m wk : Int) (ls : List (List Int)) : Option (List (List (List Int))) := if (decide (ls.length ≤ 8) && primeB m && inB 1 wk 8 && ls.all (facOk m)) then some (ls.map (facL m)) else none
theorem take_snocD {ls : List (List Int)} {k : Nat} (h : k < ls.length) : ls.take (k + 1) = ls.take k ++ [ls.getD k []] := by
  rw [List.take_succ_eq_append_getElem h]
  simp [List.getD, h]
theorem OwWs.lower {w : World} {lo lo2 hi : Nat} {v : Value} {ls : List (List Int)} (h : OwWs w lo hi v ls) (h1 : lo2 ≤ lo) : OwWs w lo2 hi v ls := by
  rcases h with h | ⟨g, cap, f, c, rfl, hc, q1, q2, q3, he, hx⟩
  · exact .inl h
  · exact .inr ⟨g, cap, f, c, rfl, hc, by omega, q2, q3, fun i hi => ⟨(he i hi).1.mono h1, (he i hi).2⟩, hx⟩
theorem RdWs.shape' {w : World} {v : Value} {ls : List (List Int)} (h : RdWs w v ls) : ∃ ao cap, v = .slice ao ls.length cap := by
  obtain ⟨ao, cap, hv, _⟩ := h
  exact ⟨ao, cap, hv⟩
theorem wholeSS_under : Try.prog.underlying 62 = some (.slice 52) := Try.underlying62
theorem workers_impl (n : Int) (w : World) : Calls Try.prog 122 #[.int .i64 n] w fun e w' => e = .returned (.bool (inB 1 n 8)) ∧ w = w' := by
  go_enter Try.func122, Try.ntmps122
  go_wp2_with ((go_at_call 95; ((with_reducible refine (within_impl _ _ _ _).mono ?_); rintro e w' ⟨rfl, rfl⟩)))
  go_ret
  exact ⟨rfl, rfl⟩

set_option maxRecDepth 100000 in
set_option maxHeartbeats 4000000 in
theorem FactorsShared_impl (v : Value) (ls : List (List Int)) (m wk : Int) (w : World) (hv : RdWs w v ls) (hl : ls.length ≤ 1099511627776) (hl2 : ∀ i, (ls.getD i []).length ≤ 1099511627776) : Calls Try.prog 52 #[v, .int .i64 m, .int .i64 wk] w (RetSS (facS m wk ls) w) := by
  have Hv := Lib.hid hv
  have Hl2 := Lib.hid hl2
  obtain ⟨aov, cv, rfl⟩ := hv.shape'
  clear hv hl2
  by_cases h8 : (8 : Int) < (ls.length : Int)
  · have Ho := Lib.hid (show facS m wk ls = none by unfold facS; rw [if_neg (by simp; omega)])
    go_enter Try.func52, Try.ntmps52
    go_wp2_with fail
    go_ret2
    rw [Ho.out]
    exact ⟨_, rfl, .inl ⟨rfl, rfl⟩, by (repeat' (first | (with_reducible exact Below.refl _ _) | (with_reducible assumption) | (with_reducible refine Below.alloc ?_ ?_ _) | (with_reducible refine Below.setCell ?_ ?_ _) | (with_reducible refine Below.drew ?_) | (with_reducible refine Below.via (by assumption) ?_ ?_) | go_size))⟩
  cases hp : primeB m
  · have Ho := Lib.hid (show facS m wk ls = none by unfold facS; rw [if_neg (by simp [hp])])
    have Hp := Lib.hid hp
    clear hp
    go_enter Try.func52, Try.ntmps52
    go_wp2_with fail
    (go_at_call 121; ((with_reducible refine (isPrime_impl m _).mono ?_); rintro e w1 ⟨rfl, hb1⟩))
    rw [Hp.out]
    go_wp2_with fail
    go_ret2
    rw [Ho.out]
    exact ⟨_, rfl, .inl ⟨rfl, rfl⟩, by (repeat' (first | (with_reducible exact Below.refl _ _) | (with_reducible assumption) | (with_reducible refine Below.alloc ?_ ?_ _) | (with_reducible refine Below.setCell ?_ ?_ _) | (with_reducible refine Below.drew ?_) | (with_reducible refine Below.via (by assumption) ?_ ?_) | go_size))⟩
  cases hw : inB 1 wk 8
  · have Ho := Lib.hid (show facS m wk ls = none by unfold facS; rw [if_neg (by simp [hw])])
    have Hp := Lib.hid hp
    have Hw := Lib.hid hw
    clear hp hw
    go_enter Try.func52, Try.ntmps52
    go_wp2_with fail
    (go_at_call 121; ((with_reducible refine (isPrime_impl m _).mono ?_); rintro e w1 ⟨rfl, hb1⟩))
    rw [Hp.out]
    go_wp2_with fail
    (go_at_call 122; ((with_reducible refine (workers_impl wk _).mono ?_); rintro e w' ⟨rfl, rfl⟩))
    rw [Hw.out]
    go_wp2_with fail
    go_ret2
    rw [Ho.out]
    exact ⟨_, rfl, .inl ⟨rfl, rfl⟩, by (repeat' (first | (with_reducible exact Below.refl _ _) | (with_reducible assumption) | (with_reducible refine Below.alloc ?_ ?_ _) | (with_reducible refine Below.setCell ?_ ?_ _) | (with_reducible refine Below.drew ?_) | (with_reducible refine Below.via (by assumption) ?_ ?_) | go_size))⟩
  have Hp := Lib.hid hp
  have Hw := Lib.hid hw
  clear hp hw
  have hl8 : ls.length ≤ 8 := by omega
  go_enter Try.func52, Try.ntmps52
  go_wp2_with fail
  (go_at_call 121; ((with_reducible refine (isPrime_impl m _).mono ?_); rintro e w1 ⟨rfl, hb1⟩))
  rw [Hp.out]
  go_wp2_with fail
  (go_at_call 122; ((with_reducible refine (workers_impl wk _).mono ?_); rintro e w' ⟨rfl, rfl⟩))
  rw [Hw.out]
  have Hb1 := Lib.hid hb1
  have z1 := hb1.size
  have HRow0 := Lib.hid (RowSS.empty (w := w1) (B := w.heap.size) rfl z1)
  clear hb1
  go_wp2_with fail
  go_loopw [8, 29] (fun ov iv wr => ∃ k : Nat, k ≤ ls.length ∧ iv = .int .i64 k ∧ (ls.take k).all (facOk m) = true ∧ RowSS wr w.heap.size ov ((ls.take k).map (facL m)) ∧ Below w.heap.size w wr) (fun _ iv _ => ls.length - (intOf iv).toNat)
  case atStart => exact ⟨0, Nat.zero_le _, rfl, by simp, by simpa using HRow0.out, by have h := Hb1.out; (repeat' (first | (with_reducible exact Below.refl _ _) | (with_reducible assumption) | (with_reducible refine Below.alloc ?_ ?_ _) | (with_reducible refine Below.setCell ?_ ?_ _) | (with_reducible refine Below.drew ?_) | (with_reducible refine Below.via (by assumption) ?_ ?_) | go_size))⟩
  case round =>
    obtain ⟨k, hk, rfl, hall, hrow, hbel⟩ := hrel
    have Hall := Lib.hid hall
    have Hrow := Lib.hid hrow
    have Hbel := Lib.hid hbel
    have hsz := hbel.size
    clear hall hrow hbel
    by_cases hlt : k < ls.length
    · have hlti : (k : Int) < (ls.length : Int) := by omega
      obtain ⟨b, off, cap, hve, _, hcs⟩ := (Hv.out.below Hbel.out).open (List.ne_nil_of_length_pos (by omega))
      simp only [Value.slice.injEq, true_and] at hve
      obtain ⟨rfl, rfl⟩ := hve
      obtain ⟨u, hc, hr⟩ := hcs k hlt
      obtain ⟨p, q, rfl⟩ := hr.shape
      have HR := Lib.hid hr
      have hx2 := Hl2.out k
      have Htk := Lib.hid (take_snocD hlt)
      clear hcs hr
      generalize ls.getD k [] = x at *
      go_wp2_with fail
      (go_at_call 48; ((with_reducible refine (FactorsOver_impl _ x m _ (HR.out.below (by (repeat' (first | (with_reducible exact Below.refl _ _) | (with_reducible assumption) | (with_reducible refine Below.alloc ?_ ?_ _) | (with_reducible refine Below.setCell ?_ ?_ _) | (with_reducible refine Below.drew ?_) | (with_reducible refine Below.via (by assumption) ?_ ?_) | go_size)))) hx2).mono ?_); rintro e w2 ⟨v2, rfl, o2, b2⟩))
      cases hok : facOk m x
      · have Hn := Lib.hid (show facR m x = none by rw [facR, hok]; rfl)
        rw [Hn.out]
        have Ho := Lib.hid (show facS m wk ls = none by
          unfold facS
          rw [if_neg]
          have h1 : ls.all (facOk m) = false := by
            rw [← List.take_append_drop (k + 1) ls, List.all_append, Htk.out]
            simp [hok]
          simp [h1])
        have B2 := Lib.hid (show Below w.heap.size w w2 from Hbel.out.trans ((show Below wr.heap.size wr w2 by (repeat' (first | (with_reducible exact Below.refl _ _) | (with_reducible assumption) | (with_reducible refine Below.alloc ?_ ?_ _) | (with_reducible refine Below.setCell ?_ ?_ _) | (with_reducible refine Below.drew ?_) | (with_reducible refine Below.via (by assumption) ?_ ?_) | go_size))).mono hsz))
        clear o2 b2 hok
        go_wp2_with fail
        go_ret2
        rw [Ho.out]
        exact ⟨_, rfl, .inl ⟨rfl, rfl⟩, B2.out⟩
      · have Hn := Lib.hid (show facR m x = some (facL m x) by rw [facR, if_pos hok])
        rw [Hn.out] at o2
        rw [Hn.out]
        have O2 := Lib.hid o2
        obtain ⟨p2, q2, rfl⟩ := o2.rd.shape'
        have B2 := Lib.hid (show Below wr.heap.size wr w2 by (repeat' (first | (with_reducible exact Below.refl _ _) | (with_reducible assumption) | (with_reducible refine Below.alloc ?_ ?_ _) | (with_reducible refine Below.setCell ?_ ?_ _) | (with_reducible refine Below.drew ?_) | (with_reducible refine Below.via (by assumption) ?_ ?_) | go_size)))
        have z2 := B2.out.size
        have hpl : ((ls.take k).map (facL m)).length ≤ 1048576 := by rw [List.length_map, List.length_take]; omega
        have Hall2 := Lib.hid (show (ls.take (k + 1)).all (facOk m) = true by rw [Htk.out, List.all_append, Hall.out]; simp [hok])
        have Hmap := Lib.hid (show (ls.take (k + 1)).map (facL m) = (ls.take k).map (facL m) ++ [facL m x] by rw [Htk.out, List.map_append]; rfl)
        clear o2 b2 hok
        generalize (ls.take k).map (facL m) = acc at *
        go_wp2_with (at_builtin; go_must (refine wpList_pushSS Hrow.out B2.out (O2.out.lower (by simp <;> omega)) rfl _ _ rfl wholeSS_under hpl hsz rfl rfl (by simp) ?_); intro v9 w9 hr9 hb9)
        go_roundw
        case rel => exact ⟨k + 1, by omega, by go_num, Hall2.out, by rw [Hmap.out]; exact hr9, (Hbel.out.trans (B2.out.mono hsz)).trans hb9⟩
        case measure => simp [intOf]; omega
    · obtain rfl : k = ls.length := by omega
      have Ho := Lib.hid (show facS m wk ls = some (ls.map (facL m)) by
        have h1 := Hall.out
        rw [List.take_length] at h1
        unfold facS
        rw [if_pos]
        simp [hl8, Hp.out, Hw.out, h1])
      have Hr := Lib.hid (show RowSS wr w.heap.size _ (ls.map (facL m)) by have h := Hrow.out; rw [List.take_length] at h; exact h)
      go_wp2_with fail
      go_ret2
      rw [Ho.out]
      exact ⟨_, rfl, Hr.out.own, Hbel.out⟩

end Go.Proofs.Ytlnjkjogedbhfaa

/- FactorsShared of the reference. Conditions: lengths of at most 2^40. -/
namespace Go.Proofs.Ytlnjkjogedbhfaa
open Go Go.RowKit
set_option linter.unusedSimpArgs false
set_option linter.unusedVariables false
set_option linter.unusedSimpArgs false
set_option linter.unusedVariables false

set_option maxRecDepth 100000 in
/-- At a whole in memory. -/
theorem is_specA (b o : Nat) (v : Value) (zs : List Int) (w : World) (hp : w.cell? ⟨b, o, none⟩ = some v) (hv : RdI w v zs) (hl : zs.length ≤ 1099511627776) : Calls Try.prog 65 #[.pointer (some ⟨b, o, none⟩)] w fun e w' => e = .returned (.bool (validB zs)) ∧ w = w' := by
  have C := Lib.hid (terms_spec v zs w hv hl)
  obtain ⟨ao, cap, rfl⟩ := hv.shape
  clear hv
  go_enter Try.func65, Try.ntmps65
  go_wp2_with (go_at_call 125; refine C.out.mono ?_; rintro e w' ⟨rfl, rfl⟩)
  go_ret
  exact ⟨rfl, rfl⟩

set_option maxRecDepth 100000 in
set_option maxHeartbeats 800000 in
theorem over_specA (b o : Nat) (v : Value) (zs : List Int) (m : Int) (w : World) (hp : w.cell? ⟨b, o, none⟩ = some v) (hv : RdI w v zs) (hl : zs.length ≤ 1099511627776) : Calls Try.prog 68 #[.pointer (some ⟨b, o, none⟩), .int .i64 m] w fun e w' => e = .returned (.bool (overB m zs)) ∧ w = w' := by
  have Hv := Lib.hid hv
  obtain ⟨ao, cap, rfl⟩ := hv.shape
  have Hp := Lib.hid hp
  clear hv
  cases hm : primeB m
  · have Ho := Lib.hid (show overB m zs = false by rw [overB, hm]; rfl)
    go_enter Try.func68, Try.ntmps68
    go_wp2_with fail
    (go_at_call 120; ((with_reducible refine (prime_spec _ _).mono ?_); rintro e w' ⟨rfl, rfl⟩))
    go_wp2_with fail
    go_ret
    rw [Ho.out]
    exact ⟨rfl, rfl⟩
  · have hmp := primeB_bd hm
    cases hq : validB zs
    · have Ho := Lib.hid (show overB m zs = false by rw [overB, hm, overZ, hq]; rfl)
      go_enter Try.func68, Try.ntmps68
      go_wp2_with fail
      (go_at_call 120; ((with_reducible refine (prime_spec _ _).mono ?_); rintro e w' ⟨rfl, rfl⟩))
      go_wp2_with fail
      (go_at_call 65; ((with_reducible refine (is_specA b o _ zs _ Hp.out Hv.out hl).mono ?_); rintro e w' ⟨rfl, rfl⟩))
      go_wp2_with fail
      go_ret
      rw [Ho.out]
      exact ⟨rfl, rfl⟩
    · have Ho := Lib.hid (show overB m zs = !(zs.any fun z => !inB 0 z (m - 1)) by rw [overB, hm, overZ, hq]; rfl)
      have hne := (validB_ne hq).1
      obtain ⟨b2, off, cap2, he, hb2, hc⟩ := Hv.out.open hne
      simp only [Value.slice.injEq] at he
      obtain ⟨rfl, _, rfl⟩ := he
      have Hc := Lib.hid hc
      clear hc
      go_enter Try.func68, Try.ntmps68
      go_wp2_with fail
      (go_at_call 120; ((with_reducible refine (prime_spec _ _).mono ?_); rintro e w' ⟨rfl, rfl⟩))
      go_wp2_with fail
      (go_at_call 65; ((with_reducible refine (is_specA b o _ zs _ Hp.out Hv.out hl).mono ?_); rintro e w' ⟨rfl, rfl⟩))
      go_wp2_with fail
      clear hm hq
      go_loop [5, 19] (fun x i => ∃ k : Nat, k ≤ zs.length ∧ i = .int .i64 k ∧ NoneUpto (fun z => !inB 0 z (m - 1)) zs k) (fun _ i => zs.length - (intOf i).toNat)
      case atStart => exact ⟨0, Nat.zero_le _, rfl, NoneUpto.zero _ _⟩
      case round =>
        obtain ⟨k, hk, rfl, hf⟩ := hrel
        by_cases hlt : k < zs.length
        · have c1 := Hc.out k hlt
          cases hx : (fun z => !inB 0 z (m - 1)) (zs.getD k 0)
          · have H2 := Lib.hid (hf.succ hx)
            clear hf
            generalize zs.getD k 0 = z at *
            dsimp only at hx
            go_wp2_with (go_at_call 109; refine (in_spec _ _ _ _).mono ?_; rintro e w' ⟨rfl, rfl⟩)
            go_round
            case rel => exact ⟨k + 1, by omega, by go_num, H2.out⟩
            case measure => simp [intOf]; omega
          · have H2 := Lib.hid (any_true (p := fun z => !inB 0 z (m - 1)) hlt hx)
            clear hf
            generalize zs.getD k 0 = z at *
            dsimp only at hx
            go_wp2_with (go_at_call 109; refine (in_spec _ _ _ _).mono ?_; rintro e w' ⟨rfl, rfl⟩)
            go_ret
            rw [Ho.out, H2.out]
            exact ⟨rfl, rfl⟩
        · obtain rfl : k = zs.length := by omega
          have H2 := Lib.hid hf.any
          clear hf
          go_wp2
          go_ret
          rw [Ho.out, H2.out]
          exact ⟨rfl, rfl⟩

set_option maxRecDepth 100000 in
set_option maxHeartbeats 4000000 in
theorem few_specA (b o : Nat) (v : Value) (zs : List Int) (m : Int) (w : World) (hp : w.cell? ⟨b, o, none⟩ = some v) (hv : RdI w v zs) (hl : zs.length ≤ 1099511627776) : Calls Try.prog 116 #[.pointer (some ⟨b, o, none⟩), .int .i64 m] w fun e w' => e = .returned (.bool (facOk m zs)) ∧ w' = w := by
  have Hv := Lib.hid hv
  obtain ⟨ao, c, rfl⟩ := hv.shape
  have Hp := Lib.hid hp
  clear hv
  cases hq : overB m zs
  · have Ho := Lib.hid (show facOk m zs = false by unfold facOk; rw [hq]; rfl)
    go_enter Try.func116, Try.ntmps116
    go_wp2_with fail
    (go_at_call 68; ((with_reducible refine (over_specA _ _ _ zs m _ (Hp.out) Hv.out hl).mono ?_); rintro e w' ⟨rfl, rfl⟩))
    rw [hq]
    go_wp2_with fail
    go_ret
    exact ⟨by rw [Ho.out]; rfl, rfl⟩
  by_cases h2 : 2 ≤ zs.length
  · have h2' : (2 : Int) ≤ (zs.length : Int) := by omega
    by_cases h7 : zs.length ≤ 7
    · have h7' : (zs.length : Int) ≤ 7 := by omega
      have Ho := Lib.hid (show facOk m zs = true by unfold facOk; rw [hq, decide_eq_true h2, decide_eq_true h7]; rfl)
      go_enter Try.func116, Try.ntmps116
      go_wp2_with fail
      (go_at_call 68; ((with_reducible refine (over_specA _ _ _ zs m _ (Hp.out) Hv.out hl).mono ?_); rintro e w' ⟨rfl, rfl⟩))
      rw [hq]
      go_wp2_with fail
      go_ret
      exact ⟨by rw [Ho.out]; rfl, rfl⟩
    · have h7' : ¬ (zs.length : Int) ≤ 7 := by omega
      have Ho := Lib.hid (show facOk m zs = false by unfold facOk; rw [hq, decide_eq_false h7]; simp)
      go_enter Try.func116, Try.ntmps116
      go_wp2_with fail
      (go_at_call 68; ((with_reducible refine (over_specA _ _ _ zs m _ (Hp.out) Hv.out hl).mono ?_); rintro e w' ⟨rfl, rfl⟩))
      rw [hq]
      go_wp2_with fail
      go_ret
      exact ⟨by show Ending.returned (Value.bool (decide ((zs.length : Int) ≤ 7))) = _; rw [decide_eq_false (by omega), Ho.out], rfl⟩
  · have h2' : ¬ (2 : Int) ≤ (zs.length : Int) := by omega
    have Ho := Lib.hid (show facOk m zs = false by unfold facOk; rw [hq, decide_eq_false h2]; simp)
    go_enter Try.func116, Try.ntmps116
    go_wp2_with fail
    (go_at_call 68; ((with_reducible refine (over_specA _ _ _ zs m _ (Hp.out) Hv.out hl).mono ?_); rintro e w' ⟨rfl, rfl⟩))
    rw [hq]
    go_wp2_with fail
    go_ret
    exact ⟨by rw [Ho.out]; rfl, rfl⟩

set_option maxRecDepth 100000 in
set_option maxHeartbeats 4000000 in
theorem FactorsShared_spec (v : Value) (ls : List (List Int)) (m wk : Int) (w : World) (hv : RdWs w v ls) (hl : ls.length ≤ 1099511627776) (hl2 : ∀ i, (ls.getD i []).length ≤ 1099511627776) : Calls Try.prog 50 #[v, .int .i64 m, .int .i64 wk] w (RetSS (facS m wk ls) w) := by
  have Hv := Lib.hid hv
  have Hl2 := Lib.hid hl2
  obtain ⟨aov, cv, rfl⟩ := hv.shape'
  clear hv hl2
  by_cases h8 : (8 : Int) < (ls.length : Int)
  · have Ho := Lib.hid (show facS m wk ls = none by unfold facS; rw [if_neg (by simp; omega)])
    go_enter Try.func50, Try.ntmps50
    go_wp2_with fail
    go_ret2
    rw [Ho.out]
    exact ⟨_, rfl, .inl ⟨rfl, rfl⟩, by (repeat' (first | (with_reducible exact Below.refl _ _) | (with_reducible assumption) | (with_reducible refine Below.alloc ?_ ?_ _) | (with_reducible refine Below.setCell ?_ ?_ _) | (with_reducible refine Below.drew ?_) | (with_reducible refine Below.via (by assumption) ?_ ?_) | go_size))⟩
  cases hp : primeB m
  · have Ho := Lib.hid (show facS m wk ls = none by unfold facS; rw [if_neg (by simp [hp])])
    have Hp := Lib.hid hp
    clear hp
    go_enter Try.func50, Try.ntmps50
    go_wp2_with fail
    (go_at_call 120; ((with_reducible refine (prime_spec _ _).mono ?_); rintro e w' ⟨rfl, rfl⟩))
    rw [Hp.out]
    go_wp2_with fail
    go_ret2
    rw [Ho.out]
    exact ⟨_, rfl, .inl ⟨rfl, rfl⟩, by (repeat' (first | (with_reducible exact Below.refl _ _) | (with_reducible assumption) | (with_reducible refine Below.alloc ?_ ?_ _) | (with_reducible refine Below.setCell ?_ ?_ _) | (with_reducible refine Below.drew ?_) | (with_reducible refine Below.via (by assumption) ?_ ?_) | go_size))⟩
  cases hw : inB 1 wk 8
  · have Ho := Lib.hid (show facS m wk ls = none by unfold facS; rw [if_neg (by simp [hw])])
    have Hp := Lib.hid hp
    have Hw := Lib.hid hw
    clear hp hw
    go_enter Try.func50, Try.ntmps50
    go_wp2_with fail
    (go_at_call 120; ((with_reducible refine (prime_spec _ _).mono ?_); rintro e w' ⟨rfl, rfl⟩))
    rw [Hp.out]
    go_wp2_with fail
    (go_at_call 109; ((with_reducible refine (in_spec _ _ _ _).mono ?_); rintro e w' ⟨rfl, rfl⟩))
    rw [Hw.out]
    go_wp2_with fail
    go_ret2
    rw [Ho.out]
    exact ⟨_, rfl, .inl ⟨rfl, rfl⟩, by (repeat' (first | (with_reducible exact Below.refl _ _) | (with_reducible assumption) | (with_reducible refine Below.alloc ?_ ?_ _) | (with_reducible refine Below.setCell ?_ ?_ _) | (with_reducible refine Below.drew ?_) | (with_reducible refine Below.via (by assumption) ?_ ?_) | go_size))⟩
  have Hp := Lib.hid hp
  have Hw := Lib.hid hw
  clear hp hw
  have hl8 : ls.length ≤ 8 := by omega
  obtain ⟨M, hM⟩ : ∃ M : Nat, m = M := ⟨m.toNat, by have := primeB_bd Hp.out; omega⟩
  subst hM
  go_enter Try.func50, Try.ntmps50
  go_wp2_with fail
  (go_at_call 120; ((with_reducible refine (prime_spec _ _).mono ?_); rintro e w' ⟨rfl, rfl⟩))
  rw [Hp.out]
  go_wp2_with fail
  (go_at_call 109; ((with_reducible refine (in_spec _ _ _ _).mono ?_); rintro e w' ⟨rfl, rfl⟩))
  rw [Hw.out]
  have HRow0 := Lib.hid (RowSS.empty (w := w) (B := w.heap.size) rfl (Nat.le_refl _))
  go_wp2_with fail
  go_loopw [8, 26] (fun ov iv wr => ∃ k : Nat, k ≤ ls.length ∧ iv = .int .i64 k ∧ (ls.take k).all (facOk (M : Int)) = true ∧ RowSS wr w.heap.size ov ((ls.take k).map (facL (M : Int))) ∧ Below w.heap.size w wr) (fun _ iv _ => ls.length - (intOf iv).toNat)
  case atStart => exact ⟨0, Nat.zero_le _, rfl, by simp, by simpa using HRow0.out, by (repeat' (first | (with_reducible exact Below.refl _ _) | (with_reducible assumption) | (with_reducible refine Below.alloc ?_ ?_ _) | (with_reducible refine Below.setCell ?_ ?_ _) | (with_reducible refine Below.drew ?_) | (with_reducible refine Below.via (by assumption) ?_ ?_) | go_size))⟩
  case round =>
    obtain ⟨k, hk, rfl, hall, hrow, hbel⟩ := hrel
    have Hall := Lib.hid hall
    have Hrow := Lib.hid hrow
    have Hbel := Lib.hid hbel
    have hsz := hbel.size
    clear hall hrow hbel
    by_cases hlt : k < ls.length
    · have hlti : (k : Int) < (ls.length : Int) := by omega
      obtain ⟨b, off, cap, hve, _, hcs⟩ := (Hv.out.below Hbel.out).open (List.ne_nil_of_length_pos (by omega))
      simp only [Value.slice.injEq, true_and] at hve
      obtain ⟨rfl, rfl⟩ := hve
      obtain ⟨u, hc, hr⟩ := hcs k hlt
      obtain ⟨p, q, rfl⟩ := hr.shape
      have HR := Lib.hid hr
      have hx2 := Hl2.out k
      have Htk := Lib.hid (take_snocD hlt)
      clear hcs hr
      generalize ls.getD k [] = x at *
      go_wp2_with fail
      (go_at_call 116; ((with_reducible refine (few_specA _ _ _ x (M : Int) _ hc HR.out hx2).mono ?_); rintro e w' ⟨rfl, rfl⟩))
      cases hok : facOk (M : Int) x
      · have Ho := Lib.hid (show facS (M : Int) wk ls = none by
          unfold facS
          rw [if_neg]
          have h1 : ls.all (facOk (M : Int)) = false := by
            rw [← List.take_append_drop (k + 1) ls, List.all_append, Htk.out]
            simp [hok]
          simp [h1])
        clear hok
        go_wp2_with fail
        go_ret2
        rw [Ho.out]
        exact ⟨_, rfl, .inl ⟨rfl, rfl⟩, Hbel.out⟩
      · have hF := facL_all hok
        rw [Int.toNat_natCast] at hF
        have HF := Lib.hid hF
        clear hF
        have hpl : ((ls.take k).map (facL (M : Int))).length ≤ 1048576 := by rw [List.length_map, List.length_take]; omega
        have Hall2 := Lib.hid (show (ls.take (k + 1)).all (facOk (M : Int)) = true by rw [Htk.out, List.all_append, Hall.out]; simp [hok])
        have Hmap := Lib.hid (show (ls.take (k + 1)).map (facL (M : Int)) = (ls.take k).map (facL (M : Int)) ++ [facL (M : Int) x] by rw [Htk.out, List.map_append]; rfl)
        clear hok
        generalize (ls.take k).map (facL (M : Int)) = acc at *
        go_wp2_with fail
        (go_at_call 117; ((with_reducible refine (ordered_spec _ x (monicS M x) M (facL M x) _ (HR.out.below (by (repeat' (first | (with_reducible exact Below.refl _ _) | (with_reducible assumption) | (with_reducible refine Below.alloc ?_ ?_ _) | (with_reducible refine Below.setCell ?_ ?_ _) | (with_reducible refine Below.drew ?_) | (with_reducible refine Below.via (by assumption) ?_ ?_) | go_size)))) HF.out.hm HF.out.ov HF.out.nz HF.out.l7 rfl HF.out.mon HF.out.fs (Nat.le_trans HF.out.l6 (by omega)) HF.out.srt HF.out.ne).mono ?_); rintro e w3 ⟨v3, rfl, o3, hb3⟩))
        have O3 := Lib.hid o3
        obtain ⟨p3, n3, rfl⟩ := o3.rd.shape'
        have B3 := Lib.hid hb3
        have z3 := hb3.size
        clear o3 hb3
        go_wp2_with (at_builtin; go_must (refine wpList_pushSS Hrow.out B3.out O3.out rfl _ _ rfl wholeSS_under hpl hsz rfl rfl (by simp) ?_); intro v9 w9 hr9 hb9)
        go_roundw
        case rel => exact ⟨k + 1, by omega, by go_num, Hall2.out, by rw [Hmap.out]; exact hr9, (Hbel.out.trans (B3.out.mono hsz)).trans hb9⟩
        case measure => simp [intOf]; omega
    · obtain rfl : k = ls.length := by omega
      have Ho := Lib.hid (show facS (M : Int) wk ls = some (ls.map (facL (M : Int))) by
        have h1 := Hall.out
        rw [List.take_length] at h1
        unfold facS
        rw [if_pos]
        simp [hl8, Hp.out, Hw.out, h1])
      have Hr := Lib.hid (show RowSS wr w.heap.size _ (ls.map (facL (M : Int))) by have h := Hrow.out; rw [List.take_length] at h; exact h)
      go_wp2_with fail
      go_ret2
      rw [Ho.out]
      exact ⟨_, rfl, Hr.out.own, Hbel.out⟩

end Go.Proofs.Ytlnjkjogedbhfaa
