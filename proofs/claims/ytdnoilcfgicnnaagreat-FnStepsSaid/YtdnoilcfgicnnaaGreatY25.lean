/- The ends of the ways through LeaveRoot's region: two boxes that hold the quotient and the rest. Conditions: none. -/
import Derived.Test.YtdnoilcfgicnnaaGreatY8
namespace Go.Proofs.YtdnoilcfgicnnaaGreat
open Go Go.RowKit
set_option linter.unusedVariables false

theorem own_al {e : TypeId} {w : World} {B : Nat} {v : Value} {xs : List Value} (h : OwV e w B v xs) (o : Obj) : OwV e (w.alloc o) B v xs := h.below ((Below.refl _ _).alloc (Nat.le_refl _) o)
theorem celAt {w : World} {u : Value} {t : TypeId} {n : Nat} (h : n = w.heap.size) : (w.alloc (.cells #[u] t)).cell? ⟨n, 0, none⟩ = some u := by subst h; exact World.cell?_alloc_new w #[u] t 0
theorem celOld {w : World} {a : Addr} {u : Value} (h : w.cell? a = some u) (x : Obj) : (w.alloc x).cell? a = some u := by
  rw [((Below.refl w.heap.size w).alloc (Nat.le_refl _) x).cell (World.block_lt_of_cell? w a h)]; exact h
/-- Two boxes that hold the quotient and the rest. -/
def Held (Q : List C2) (r : C2) (w2 : World) (v7 v8 v9 : Value) (wx : World) : Prop := ∃ (g7 g8 : Nat) (aq ar : Option Addr) (cq cr : Nat) (qs ts : List C2), v7 = .pointer (some ⟨g7, 0, none⟩) ∧ v8 = .pointer (some ⟨g8, 0, none⟩) ∧ v9 = .bool true ∧ wx.cell? ⟨g7, 0, none⟩ = some (.slice aq qs.length cq) ∧ wx.cell? ⟨g8, 0, none⟩ = some (.slice ar ts.length cr) ∧ qs.map nc = Q ∧ ts.map nc = [r] ∧ OwV 36 wx w2.heap.size (.slice aq qs.length cq) (cx qs) ∧ RdV wx (.slice ar ts.length cr) (cx ts) ∧ Below w2.heap.size w2 wx ∧ w2.heap.size ≤ g7 ∧ w2.heap.size ≤ g8
section
variable {Q : List C2} {r : C2} {w2 w5 : World} {aq ar : Option Addr} {cq cr B k k' : Nat} {qs ts : List C2} {u u' : Value}
  (hqs : qs.map nc = Q) (hts : ts.map nc = [r]) (hq : OwV 36 w5 B (.slice aq qs.length cq) (cx qs)) (hr : OwV 36 w5 B (.slice ar ts.length cr) (cx ts)) (hb : Below w2.heap.size w2 w5)
include hqs hts hq hr hb
theorem endA (hB : w2.heap.size ≤ B) : Held Q r w2 (.pointer (some ⟨w5.heap.size, 0, none⟩)) (.pointer (some ⟨w5.heap.size + 1, 0, none⟩)) (.bool true) ((w5.alloc (.cells #[.slice aq qs.length cq] 28)).alloc (.cells #[.slice ar ts.length cr] 28)) :=
  ⟨_, _, aq, ar, cq, cr, qs, ts, rfl, rfl, rfl, celOld (celAt rfl) _, celAt (by simp), hqs, hts, (own_al (own_al hq _) _).mono hB, (own_al (own_al hr _) _).rd, (hb.alloc hb.size _).alloc (by have := hb.size; simp; omega) _, hb.size, by have := hb.size; omega⟩
theorem endB (hB : w2.heap.size ≤ B) : Held Q r w2 (.pointer (some ⟨w5.heap.size + 1, 0, none⟩)) (.pointer (some ⟨w5.heap.size, 0, none⟩)) (.bool true) ((w5.alloc (.cells #[.slice ar ts.length cr] 28)).alloc (.cells #[.slice aq qs.length cq] 28)) :=
  ⟨_, _, aq, ar, cq, cr, qs, ts, rfl, rfl, rfl, celAt (by simp), celOld (celAt rfl) _, hqs, hts, (own_al (own_al hq _) _).mono hB, (own_al (own_al hr _) _).rd, (hb.alloc hb.size _).alloc (by have := hb.size; simp; omega) _, by have := hb.size; omega, hb.size⟩
theorem endC (hk : k < B) (h2 : w2.heap.size ≤ k) (hc : w5.cell? ⟨k, 0, none⟩ = some u) : Held Q r w2 (.pointer (some ⟨k, 0, none⟩)) (.pointer (some ⟨w5.heap.size, 0, none⟩)) (.bool true) ((w5.setCell ⟨k, 0, none⟩ (.slice aq qs.length cq)).alloc (.cells #[.slice ar ts.length cr] 28)) :=
  ⟨_, _, aq, ar, cq, cr, qs, ts, rfl, rfl, rfl, celOld (setCell_self hc _) _, celAt (by simp), hqs, hts, (own_al (own_set hq hk _) _).mono (by omega), (own_al (own_set hr hk _) _).rd, (hb.setCell (p := ⟨k, 0, none⟩) h2 _).alloc (by have := hb.size; simp; omega) _, h2, hb.size⟩
theorem endD (hk : k < B) (h2 : w2.heap.size ≤ k) (hc : w5.cell? ⟨k, 0, none⟩ = some u) : Held Q r w2 (.pointer (some ⟨w5.heap.size, 0, none⟩)) (.pointer (some ⟨k, 0, none⟩)) (.bool true) ((w5.setCell ⟨k, 0, none⟩ (.slice ar ts.length cr)).alloc (.cells #[.slice aq qs.length cq] 28)) :=
  ⟨_, _, aq, ar, cq, cr, qs, ts, rfl, rfl, rfl, celAt (by simp), celOld (setCell_self hc _) _, hqs, hts, (own_al (own_set hq hk _) _).mono (by omega), (own_al (own_set hr hk _) _).rd, (hb.setCell (p := ⟨k, 0, none⟩) h2 _).alloc (by have := hb.size; simp; omega) _, hb.size, h2⟩
theorem endE (hk : k < B) (h2 : w2.heap.size ≤ k) (hk' : k' < B) (h2' : w2.heap.size ≤ k') (hn : k ≠ k') (hc : w5.cell? ⟨k, 0, none⟩ = some u) (hc' : w5.cell? ⟨k', 0, none⟩ = some u') : Held Q r w2 (.pointer (some ⟨k, 0, none⟩)) (.pointer (some ⟨k', 0, none⟩)) (.bool true) ((w5.setCell ⟨k, 0, none⟩ (.slice aq qs.length cq)).setCell ⟨k', 0, none⟩ (.slice ar ts.length cr)) :=
  ⟨_, _, aq, ar, cq, cr, qs, ts, rfl, rfl, rfl, (cellZ hn).trans (setCell_self hc _), setCell_self ((cellZ (fun e => hn e.symm)).trans hc') _, hqs, hts, (own_set (own_set hq hk _) hk' _).mono (by omega), (own_set (own_set hr hk _) hk' _).rd, (hb.setCell (p := ⟨k, 0, none⟩) h2 _).setCell (p := ⟨k', 0, none⟩) h2' _, h2, h2'⟩
end
section
variable {Q : List C2} {r : C2} {w2 w5 W : World} {aq ar : Option Addr} {cq cr k k' : Nat} {qs ts : List C2}
  (hqs : qs.map nc = Q) (hts : ts.map nc = [r]) (hq : OwV 36 w5 W.heap.size (.slice aq qs.length cq) (cx qs)) (hr : OwV 36 w5 W.heap.size (.slice ar ts.length cr) (cx ts)) (hb : Below w2.heap.size w2 w5) (h5 : Below W.heap.size W w5)
include hqs hts hq hr hb h5
theorem endCw (hk : k < W.heap.size) (h2 : w2.heap.size ≤ k) (hc : W.cell? ⟨k, 0, none⟩ = some (.slice none 0 0)) : Held Q r w2 (.pointer (some ⟨k, 0, none⟩)) (.pointer (some ⟨w5.heap.size, 0, none⟩)) (.bool true) ((w5.setCell ⟨k, 0, none⟩ (.slice aq qs.length cq)).alloc (.cells #[.slice ar ts.length cr] 28)) :=
  endC hqs hts hq hr hb hk h2 ((h5.cell hk).trans hc)
theorem endDw (hk : k < W.heap.size) (h2 : w2.heap.size ≤ k) (hc : W.cell? ⟨k, 0, none⟩ = some (.slice none 0 0)) : Held Q r w2 (.pointer (some ⟨w5.heap.size, 0, none⟩)) (.pointer (some ⟨k, 0, none⟩)) (.bool true) ((w5.setCell ⟨k, 0, none⟩ (.slice ar ts.length cr)).alloc (.cells #[.slice aq qs.length cq] 28)) :=
  endD hqs hts hq hr hb hk h2 ((h5.cell hk).trans hc)
theorem endEw (hk : k < W.heap.size) (h2 : w2.heap.size ≤ k) (hk' : k' < W.heap.size) (h2' : w2.heap.size ≤ k') (hn : k ≠ k') (hc : W.cell? ⟨k, 0, none⟩ = some (.slice none 0 0)) (hc' : W.cell? ⟨k', 0, none⟩ = some (.slice none 0 0)) : Held Q r w2 (.pointer (some ⟨k, 0, none⟩)) (.pointer (some ⟨k', 0, none⟩)) (.bool true) ((w5.setCell ⟨k, 0, none⟩ (.slice aq qs.length cq)).setCell ⟨k', 0, none⟩ (.slice ar ts.length cr)) :=
  endE hqs hts hq hr hb hk h2 hk' h2' hn ((h5.cell hk).trans hc) ((h5.cell hk').trans hc')
end
theorem celDN {w : World} {a : Addr} {u : Value} (h : w.cell? a = some u) (n : Nat) : (w.drewN n).cell? a = some u := h
theorem celD {w : World} {a : Addr} {u : Value} (h : w.cell? a = some u) : w.drew.cell? a = some u := h
end Go.Proofs.YtdnoilcfgicnnaaGreat
