/- Lists of wholes that the laws copy, and their marks. Conditions: lengths of at most 2^20. -/
import Derived.Test.YtlnjkjogedbhfaaI75
import Derived.Test.YtlnjkjogedbhfaaI7
namespace Go.Proofs.Ytlnjkjogedbhfaa
open Go Go.RowKit
set_option linter.unusedSimpArgs false
set_option linter.unusedVariables false

/-- Elements in parts of memory of their own, apart from the block g. -/
structure ElR (w : World) (lo hi g : Nat) (ls : List (List Int)) (n : Nat) (L H : Nat → Nat) (u : Nat → Value) : Prop where
  own : ∀ i, i < n → OwR w (L i) (H i) (u i) (ls.getD i [])
  lo : ∀ i, i < n → lo ≤ L i
  hi : ∀ i, i < n → H i ≤ hi
  g : ∀ i, i < n → g < L i ∨ H i ≤ g
  apart : ∀ i j, i < j → j < n → H i ≤ L j
/-- A list of wholes of the call's own, its elements in parts of memory of their own (they may be nil). -/
def OwWr (w : World) (lo hi : Nat) (v : Value) (ls : List (List Int)) : Prop :=
  ∃ g cap L H u, v = .slice (some ⟨g, 0, none⟩) ls.length cap ∧ (ls.length ≤ cap ∧ cap ≤ maxLen) ∧ lo ≤ g ∧ g < hi ∧ g < w.heap.size ∧ ElR w lo hi g ls ls.length L H u ∧ ∀ i, i < ls.length → w.cell? ⟨g, i, none⟩ = some (u i)
theorem OwWr.rd {w : World} {lo hi : Nat} {v : Value} {ls : List (List Int)} (h : OwWr w lo hi v ls) : RdWs w v ls := by
  obtain ⟨g, cap, L, H, u, rfl, hc, _, _, hg, he, hx⟩ := h
  exact ⟨_, cap, rfl, hc, .inr ⟨g, 0, rfl, fun i hi => ⟨_, by rw [Nat.zero_add]; exact hx i hi, (he.own i hi).rd⟩⟩⟩
theorem OwR.kept {w w' : World} {lo hi : Nat} {v : Value} {zs : List Int} (h : OwR w lo hi v zs) (hb : ∀ k, lo ≤ k → k < hi → k < w.heap.size → w'.heap[k]? = w.heap[k]?) : OwR w' lo hi v zs := by
  refine ⟨?_, h.2⟩
  rcases h.1 with h1 | ⟨g, cap, cur, rfl, h2, h3, h4⟩
  · exact .inl h1
  · exact .inr ⟨g, cap, cur, rfl, h2, by rw [hb g h2 (h.2 _ _ _ rfl) (Array.getElem?_eq_some_iff.1 h3).1]; exact h3, h4⟩
theorem OwWr.below {w w' : World} {lo hi : Nat} {v : Value} {ls : List (List Int)} (h : OwWr w lo hi v ls) (hb : Below w.heap.size w w') : OwWr w' lo hi v ls := by
  obtain ⟨g, cap, L, H, u, rfl, hc, q1, q2, hg, he, hx⟩ := h
  exact ⟨g, cap, L, H, u, rfl, hc, q1, q2, Nat.lt_of_lt_of_le hg hb.size, ⟨fun i hi => (he.own i hi).kept fun k _ _ hk => hb.block k hk, he.lo, he.hi, he.g, he.apart⟩, fun i hi => (hb.cell (p := ⟨g, i, none⟩) hg).trans (hx i hi)⟩

section
variable {ops : Array Oper} {rest : List Oper} {o : Oper} {a : Act} {Q : Exit → Act → World → Prop}
theorem infoWh : (Try.prog.info? 27).map (fun i => (i.zero, i.size, i.bytes)) = some (some (.agg #[.slice none 0 0]), 1, 24) := by kernel_rfl
theorem wpList_makeW (w : World) (hg : o.guard = none) (l c : Operand) (t : TypeId) (hop : o.op = Op.makeSlice t l c) (ht : Try.prog.underlying t = some (.slice 27))
    (L C : Int) (n : Nat) (hl : a.eval l = .int .i64 L) (hc : a.eval c = .int .i64 C) (hL : L = (n : Int)) (hC : C = (n : Int)) (hn : n ≤ 1048576)
    (hK : ∀ w', (∃ cur, w'.heap[w.heap.size]? = some (.cells cur 27 (0, 0)) ∧ cur.size = n) → Below w.heap.size w w' → w.heap.size < w'.heap.size → wpList Try.prog ops Q rest (a.put o.dst (.slice (some ⟨w.heap.size, 0, none⟩) n n)) w') :
    wpList Try.prog ops Q (o :: rest) a w := by
  have hi2 := infoWh
  cases hi : Try.prog.info? 27 with
  | none => rw [hi] at hi2; cases hi2
  | some i =>
  rw [hi] at hi2
  simp only [Option.map_some, Option.some.injEq, Prod.mk.injEq] at hi2
  refine wpList_make_full w hg l c t hop w.heap.size 27 i _ 1 ht hi hi2.1 hi2.2.1 .i64 .i64 L C n hl hc hL hC (by rw [hi2.2.2]; omega) (by unfold maxLen; omega) (Nat.le_refl _) ?_
  intro w1 hown hgrow
  rcases hown.2 with ⟨h, _⟩ | ⟨g, cap, cur, h, _, hg, _, _, hsz, _⟩
  · simp at h
  · simp only [Value.slice.injEq, Option.some.injEq, Addr.mk.injEq, and_true, true_and] at h
    obtain ⟨rfl, rfl⟩ := h
    exact hK w1 ⟨cur, hg, by rw [hsz]; omega⟩ ((Below.refl _ _).grown hgrow (Nat.le_refl _) (by simp)) (Array.getElem?_eq_some_iff.1 hg).1
end

/-- The first k of a list are copied. -/
def CopR (g n : Nat) (ls : List (List Int)) (k : Nat) (wr : World) : Prop := ∃ cur L H u, wr.heap[g]? = some (.cells cur 27 (0, 0)) ∧ cur.size = n ∧ (∀ i, i < k → cur[i]? = some (u i)) ∧ ElR wr (g + 1) wr.heap.size g ls k L H u
theorem CopR.lt {g n : Nat} {ls : List (List Int)} {k : Nat} {wr : World} (h : CopR g n ls k wr) : g < wr.heap.size := by
  obtain ⟨cur, L, H, u, h1, _⟩ := h
  exact (Array.getElem?_eq_some_iff.1 h1).1
theorem CopR.cell {g n : Nat} {ls : List (List Int)} {k : Nat} {wr : World} (h : CopR g n ls k wr) {j : Nat} (hj : j < n) : (∃ v, wr.cell? ⟨g, j, none⟩ = some v) ∧ wr.frozen? ⟨g, j, none⟩ = false := by
  obtain ⟨cur, L, H, u, h1, h2, _⟩ := h
  refine ⟨⟨cur[j]'(by omega), ?_⟩, by simp [World.frozen?, h1]⟩
  rw [cell_of_row wr g j cur _ (0, 0) h1]
  simp [show j < cur.size by omega]
theorem CopR.step {g n k : Nat} {ls : List (List Int)} {wr w2 : World} {p : Option Addr} {m q : Nat} (h : CopR g n ls k wr) (hk : k < n) (hb : Below wr.heap.size wr w2) (ho : OwI w2 wr.heap.size (.slice p m q) (ls.getD k [])) : CopR g n ls (k + 1) (w2.setCell ⟨g, k, none⟩ (.slice p m q)) := by
  have hg := h.lt
  obtain ⟨cur, L, H, u, h1, h2, h3, h4⟩ := h
  have h5 : w2.heap[g]? = some (.cells cur 27 (0, 0)) := by rw [hb.block g hg]; exact h1
  have hs := hb.size
  have hne : ∀ i, i ≠ g → (w2.setCell ⟨g, k, none⟩ (.slice p m q)).heap[i]? = w2.heap[i]? := fun i hi => Below.heap_setCell _ _ _ _ hi
  refine ⟨cur.setIfInBounds k (.slice p m q), fun i => if i < k then L i else wr.heap.size, fun i => if i < k then H i else w2.heap.size, fun i => if i < k then u i else .slice p m q, heap_setCell_same w2 g k cur _ _ h5, by simpa using h2, fun i hi => ?_, ⟨fun i hi => ?_, fun i hi => ?_, fun i hi => ?_, fun i hi => ?_, fun i j hij hj => ?_⟩⟩
  · by_cases e : i < k
    · simp only [if_pos e]
      rw [Array.getElem?_setIfInBounds_ne (by omega)]
      exact h3 i e
    · obtain rfl : i = k := by omega
      simp only [if_neg e]
      rw [Array.getElem?_setIfInBounds_self_of_lt (by omega)]
  · by_cases e : i < k
    · simp only [if_pos e]
      refine (h4.own i e).kept fun j q1 q2 q3 => ?_
      have := h4.g i e
      rw [hne j (by omega)]
      exact hb.block j q3
    · obtain rfl : i = k := by omega
      simp only [if_neg e]
      refine ho.range.kept fun j q1 q2 q3 => hne j (by omega)
  · by_cases e : i < k
    · simp only [if_pos e]; exact h4.lo i e
    · simp only [if_neg e]; omega
  · simp only [World.size_setCell]
    by_cases e : i < k
    · simp only [if_pos e]; have := h4.hi i e; omega
    · simp only [if_neg e]; exact Nat.le_refl _
  · by_cases e : i < k
    · simp only [if_pos e]; exact h4.g i e
    · simp only [if_neg e]; omega
  · by_cases e : j < k
    · simp only [if_pos e, if_pos (show i < k by omega)]; exact h4.apart i j hij e
    · simp only [if_neg e, if_pos (show i < k by omega)]; exact h4.hi i (by omega)
def RCop (ls : List (List Int)) (w : World) (e : Ending) (w' : World) : Prop := ∃ v, e = .returned v ∧ OwWr w' w.heap.size w'.heap.size v ls ∧ Below w.heap.size w w'
set_option maxRecDepth 100000 in
set_option maxHeartbeats 1600000 in
theorem to_wholeS (v : Value) (ls : List (List Int)) (w : World) (hv : RdWs w v ls) (hl : ls.length ≤ 1048576) (hl2 : ∀ i, (ls.getD i []).length ≤ 1048576) : Calls Try.prog 51 #[v] w (RCop ls w) := by
  have Hv := Lib.hid hv
  have Hl2 := Lib.hid hl2
  obtain ⟨ao, cap, hsv⟩ := hv.shape
  subst hsv
  clear hv hl2
  go_enter Try.func51, Try.ntmps51
  go_wp2_with (at_make; refine wpList_makeW _ rfl _ _ _ rfl wholeS_under _ _ ls.length rfl rfl (by first | rfl | omega) (by first | rfl | omega) hl ?_; intro w1 hc1 hb1 hg1)
  have C0 := Lib.hid (show CopR w.heap.size ls.length ls 0 w1 by
    obtain ⟨cur, q1, q2⟩ := hc1
    exact ⟨cur, fun _ => 0, fun _ => 0, fun _ => .slice none 0 0, q1, q2, fun i hi => absurd hi (by omega), ⟨fun i hi => absurd hi (by omega), fun i hi => absurd hi (by omega), fun i hi => absurd hi (by omega), fun i hi => absurd hi (by omega), fun i j _ hj => absurd hj (by omega)⟩⟩)
  have B1 := Lib.hid hb1
  clear hc1 hb1
  go_wp2_with fail
  go_loopw [4] (fun i wr => ∃ k : Nat, k ≤ ls.length ∧ i = .int .i64 k ∧ CopR w.heap.size ls.length ls k wr ∧ Below w.heap.size w wr) (fun i _ => ls.length - (intOf i).toNat)
  case atStart => exact ⟨0, Nat.zero_le _, rfl, C0.out, B1.out⟩
  case round =>
    obtain ⟨k, hk, rfl, hcop, hbel⟩ := hrel
    have Hcop := Lib.hid hcop
    have Hbel := Lib.hid hbel
    have hsz := hbel.size
    have hgw := hcop.lt
    by_cases hlt : k < ls.length
    · have hlti : (k : Int) < (ls.length : Int) := by omega
      obtain ⟨b, off, cap2, hve, hbs, hcs⟩ := (Hv.out.below hbel).open (List.ne_nil_of_length_pos (by omega))
      simp only [Value.slice.injEq, true_and] at hve
      obtain ⟨rfl, rfl⟩ := hve
      obtain ⟨u, hc, hr⟩ := hcs k hlt
      obtain ⟨p, q, rfl⟩ := hr.shape
      have HR := Lib.hid hr
      have hx2 := Hl2.out k
      have Hst := Lib.hid (fun (w2 : World) (p : Option Addr) (m q : Nat) => Hcop.out.step (w2 := w2) (p := p) (m := m) (q := q) hlt)
      clear hcs hr hcop hbel
      generalize ls.getD k [] = x at *
      go_wp2_with fail
      (go_at_call 33; ((with_reducible refine (to_whole _ x _ HR.out (by omega)).mono ?_); rintro e w2 ⟨v2, rfl, o2, b2⟩))
      obtain ⟨p2, q2, rfl⟩ := o2.rd.shape
      have N2 := Lib.hid (Hst.out w2 _ _ _ b2 o2)
      obtain ⟨⟨y, cy⟩, fy⟩ := Hcop.out.cell hlt
      have cy2 := (b2.cell (p := ⟨w.heap.size, k, none⟩) hgw).trans cy
      have fy2 := (b2.frozen (p := ⟨w.heap.size, k, none⟩) hgw).trans fy
      have B2 := Lib.hid (show Below w.heap.size w (w2.setCell ⟨w.heap.size, k, none⟩ (.slice p2 x.length q2)) from Below.setCell (Hbel.out.trans (b2.mono hsz)) (Nat.le_refl _) _)
      clear cy fy o2 b2 hc
      go_wp2_with fail
      go_roundw
      case rel => exact ⟨k + 1, by omega, by go_num, N2.out, B2.out⟩
      case measure => simp [intOf]; omega
    · obtain rfl : k = ls.length := by omega
      have hlti : ¬ ((ls.length : Int) < (ls.length : Int)) := by omega
      have HO := Lib.hid (show OwWr wr w.heap.size wr.heap.size (.slice (some ⟨w.heap.size, 0, none⟩) ls.length ls.length) ls by
        obtain ⟨cur, L, H, u, h1, h2, h3, h4⟩ := hcop
        refine ⟨w.heap.size, _, L, H, u, rfl, ⟨Nat.le_refl _, by unfold maxLen; omega⟩, Nat.le_refl _, hgw, hgw, ⟨h4.own, fun i hi => by have := h4.lo i hi; omega, h4.hi, h4.g, h4.apart⟩, fun i hi => ?_⟩
        rw [cell_of_row wr _ i cur _ (0, 0) h1]
        exact h3 i hi)
      clear hcop hbel
      go_wp2_with fail
      go_ret
      exact ⟨_, rfl, HO.out, Hbel.out⟩

def RMk (lo hi : Nat) (ls : List (List Int)) (k : Int) (w : World) (e : Ending) (w' : World) : Prop := e = .returned (.int .i64 (k + preL ls ls.length)) ∧ Only lo hi w w'
set_option maxRecDepth 100000 in
set_option maxHeartbeats 1600000 in
theorem mark_wholeR (v : Value) (ls : List (List Int)) (lo hi : Nat) (k : Int) (w : World) (hv : OwWr w lo hi v ls) (hl : ls.length ≤ 1048576) (hpb : preL ls ls.length ≤ 1048576) (hl2 : ∀ i, (ls.getD i []).length ≤ 1048576) (k0 : 0 ≤ k) (k1 : k ≤ 1000000) : Calls Try.prog 45 #[v, .int .i64 k] w (RMk lo hi ls k w) := by
  have Hl2 := Lib.hid hl2
  obtain ⟨g, cap, L, H, u, rfl, hcp, hg1, hg2, hg3, he, hx⟩ := hv
  have He := Lib.hid he
  have Hx := Lib.hid hx
  have Hpb := Lib.hid hpb
  clear he hx hl2 hpb
  go_enter Try.func45, Try.ntmps45
  go_wp2
  go_loopw [1, 5] (fun q i wr => ∃ j : Nat, j ≤ ls.length ∧ i = .int .i64 j ∧ q = .int .i64 (k + preL ls j) ∧ (∀ i, i < ls.length → wr.cell? ⟨g, i, none⟩ = some (u i)) ∧ (∀ i, j ≤ i → i < ls.length → OwR wr (L i) (H i) (u i) (ls.getD i [])) ∧ Only lo hi w wr) (fun _ i _ => ls.length - (intOf i).toNat)
  case atStart => exact ⟨0, Nat.zero_le _, rfl, by simp [preL], Hx.out, fun i _ hi => He.out.own i hi, Only.refl _ _ _⟩
  case round =>
    obtain ⟨j, hj, rfl, rfl, hxr, hor, hon⟩ := hrel
    have Hxr := Lib.hid hxr
    have Hor := Lib.hid hor
    have Hon := Lib.hid hon
    have hgs := hon.size
    clear hxr hor hon
    by_cases hlt : j < ls.length
    · have d1 := Hxr.out j hlt
      have h1 := Hor.out j (Nat.le_refl _) hlt
      have R1 := Lib.hid h1
      have hz := Hl2.out j
      have hp1 := preL_le ls (show j ≤ ls.length by omega)
      have hp3 : preL ls (j + 1) = preL ls j + (ls.getD j []).length := rfl
      have Hpn := Lib.hid (show k + (preL ls (j + 1) : Int) = k + (preL ls j : Int) + ((ls.getD j []).length : Int) by rw [hp3]; omega)
      have hkq : k + (preL ls j : Int) ≤ 2000000000 := by have := Hpb.out; omega
      have hkp : 0 ≤ k + (preL ls j : Int) := by omega
      obtain ⟨p, n, hu⟩ := h1.rd.shape
      rw [hu] at d1 R1
      have Hnew := Lib.hid (fun (w2 : World) (hm : Only (L j) (H j) wr w2) =>
        (show (∀ i, i < ls.length → w2.cell? ⟨g, i, none⟩ = some (u i)) ∧ (∀ i, j + 1 ≤ i → i < ls.length → OwR w2 (L i) (H i) (u i) (ls.getD i [])) ∧ Only lo hi w w2 from by
          refine ⟨fun i hi => ?_, fun i hji hi => ?_, Hon.out.trans (hm.wide (He.out.lo j hlt) (He.out.hi j hlt))⟩
          · rw [hm.cell (p := ⟨g, i, none⟩) (by simp only; omega) (by simp only; have := He.out.g j hlt; omega)]
            exact Hxr.out i hi
          · refine (Hor.out i (by omega) hi).only hm (.inr (He.out.apart j i (by omega) hi))))
      clear h1 hu hp3 hp1
      generalize hqq : k + (preL ls j : Int) = q at *
      generalize hzz : ls.getD j [] = zj at *
      clear hzz hqq
      go_wp2_with fail
      (go_at_call 107; ((with_reducible refine (mark_ints _ zj (L j) (H j) q _ R1.out (by omega) (by omega) (by omega)).mono ?_); rintro e w2 ⟨rfl, om, hm⟩))
      obtain ⟨hn1, hn2, hn3⟩ := Hnew.out w2 hm
      have Hn1 := Lib.hid hn1
      have Hn2 := Lib.hid hn2
      have Hn3 := Lib.hid hn3
      clear hn1 hn2 hn3 om hm
      go_wp2_with fail
      go_roundw
      case rel => exact ⟨j + 1, by omega, by go_num, by rw [Hpn.out], Hn1.out, Hn2.out, Hn3.out⟩
      case measure => simp [intOf]; omega
    · obtain rfl : j = ls.length := by omega
      go_wp2
      go_ret
      exact ⟨rfl, Hon.out⟩

end Go.Proofs.Ytlnjkjogedbhfaa
