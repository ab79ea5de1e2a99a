/- Powers over a prime: the program's walk. Conditions: lengths of at most 2^40. -/
import Derived.Test.YtlnjkjogedbhfaaI17
import Derived.Test.YtlnjkjogedbhfaaI16
import Derived.Deep.RegionWith
import Derived.Deep.DeepCutAuto
namespace Go.Proofs.Ytlnjkjogedbhfaa
open Go Go.RowKit
set_option linter.unusedSimpArgs false
set_option linter.unusedVariables false

theorem OwI.setOther {w : World} {B : Nat} {v : Value} {zs : List Int} (h : OwI w B v zs) {p : Addr} (hp : ∀ q n c, v = .slice (some q) n c → q.block ≠ p.block) (u : Value) : OwI (w.setCell p u) B v zs := by
  rcases h with h | ⟨g, cap, cur, rfl, h2, h3, h4⟩
  · exact .inl h
  · exact .inr ⟨g, cap, cur, rfl, h2, by rw [Below.heap_setCell w p u g (hp _ _ _ rfl)]; exact h3, h4⟩
/-- A list of the call's own, whose block is none of three boxes. -/
def OwX (w : World) (B g1 g2 g3 : Nat) (v : Value) (zs : List Int) : Prop := OwI w B v zs ∧ ∀ q n c, v = .slice (some q) n c → q.block ≠ g1 ∧ q.block ≠ g2 ∧ q.block ≠ g3
theorem OwX.rd {w : World} {B g1 g2 g3 : Nat} {v : Value} {zs : List Int} (h : OwX w B g1 g2 g3 v zs) : RdI w v zs := h.1.rd
theorem OwX.below {w w' : World} {B g1 g2 g3 : Nat} {v : Value} {zs : List Int} (h : OwX w B g1 g2 g3 v zs) (hb : Below w.heap.size w w') : OwX w' B g1 g2 g3 v zs := ⟨h.1.below hb, h.2⟩
theorem OwX.set1 {w : World} {B g1 g2 g3 : Nat} {v : Value} {zs : List Int} (h : OwX w B g1 g2 g3 v zs) (o : Nat) (u : Value) : OwX (w.setCell ⟨g1, o, none⟩ u) B g1 g2 g3 v zs := ⟨h.1.setOther (fun q n c hv => (h.2 q n c hv).1) u, h.2⟩
theorem OwX.set2 {w : World} {B g1 g2 g3 : Nat} {v : Value} {zs : List Int} (h : OwX w B g1 g2 g3 v zs) (o : Nat) (u : Value) : OwX (w.setCell ⟨g2, o, none⟩ u) B g1 g2 g3 v zs := ⟨h.1.setOther (fun q n c hv => (h.2 q n c hv).2.1) u, h.2⟩
theorem OwX.set3 {w : World} {B g1 g2 g3 : Nat} {v : Value} {zs : List Int} (h : OwX w B g1 g2 g3 v zs) (o : Nat) (u : Value) : OwX (w.setCell ⟨g3, o, none⟩ u) B g1 g2 g3 v zs := ⟨h.1.setOther (fun q n c hv => (h.2 q n c hv).2.2) u, h.2⟩
theorem OwX.drew {w : World} {B g1 g2 g3 : Nat} {v : Value} {zs : List Int} (h : OwX w B g1 g2 g3 v zs) : OwX w.drew B g1 g2 g3 v zs := h.below ((Below.refl _ _).drew)
theorem OwX.ofNew {w : World} {B B' g1 g2 g3 : Nat} {v : Value} {zs : List Int} (h : OwI w B v zs) (hB : B' ≤ B) (h1 : g1 < B) (h2 : g2 < B) (h3 : g3 < B) : OwX w B' g1 g2 g3 v zs := by
  refine ⟨h.mono hB, fun q n c hv => ?_⟩
  rcases h with ⟨rfl, _⟩ | ⟨g, cap, cur, rfl, h4, _⟩
  · simp at hv
  · simp only [Value.slice.injEq, Option.some.injEq] at hv
    rw [← hv.1]
    simp only
    omega

theorem divide_impl2 (va vb : Value) (a b : List Int) (m : Int) (w : World) (ha : RdI w va a) (hb : RdI w vb b) (hm : primeB m = true) (hoa : Ovr m a) (hob : Ovr m b) : Calls Try.prog 88 #[.agg #[va], .agg #[vb], .int .i64 m] w (RW2 (divF a b m) w) :=
  divide_impl va vb a b m w ha hb hm hoa.ov hob.ov hoa.ne hob.ne hoa.len hob.len

/-- What holds at the head of the loop, and between its regions. -/
def PB (w : World) (g1 g2 : Nat) (aob : Option Addr) (cb : Nat) (by' : List Int) (m : Int) (o s : List Int) (wr : World) : Prop :=
  ∃ (aoo : Option Addr) (co : Nat) (aos : Option Addr) (cs : Nat),
    wr.cell? ⟨w.heap.size + 1, 0, none⟩ = some (.slice aob by'.length cb) ∧ wr.cell? ⟨w.heap.size + 1 + 1, 0, none⟩ = some (.slice none 0 0) ∧ wr.frozen? ⟨w.heap.size + 1 + 1, 0, none⟩ = false ∧
    wr.cell? ⟨g1, 0, none⟩ = some (.slice aoo o.length co) ∧ wr.frozen? ⟨g1, 0, none⟩ = false ∧ wr.cell? ⟨g2, 0, none⟩ = some (.slice aos s.length cs) ∧ wr.frozen? ⟨g2, 0, none⟩ = false ∧
    OwX wr w.heap.size (w.heap.size + 1 + 1) g1 g2 (.slice aoo o.length co) o ∧ OwX wr w.heap.size (w.heap.size + 1 + 1) g1 g2 (.slice aos s.length cs) s ∧
    Ov17 m o ∧ Ov17 m s ∧ Below w.heap.size w wr
theorem PB.below {w wr w' : World} {g1 g2 : Nat} {aob : Option Addr} {cb : Nat} {by' : List Int} {m : Int} {o s : List Int} (h : PB w g1 g2 aob cb by' m o s wr) (hb : Below wr.heap.size wr w') : PB w g1 g2 aob cb by' m o s w' := by
  obtain ⟨aoo, co, aos, cs, x1, x2, y2, x10, y10, x12, y12, ho, hs, h1, h2, h3⟩ := h
  exact ⟨aoo, co, aos, cs, (hb.cell (p := ⟨_, 0, none⟩) (World.block_lt_of_cell? _ _ x1)).trans x1, (hb.cell (p := ⟨_, 0, none⟩) (World.block_lt_of_cell? _ _ x2)).trans x2, (hb.frozen (p := ⟨_, 0, none⟩) (World.block_lt_of_cell? _ _ x2)).trans y2,
    (hb.cell (p := ⟨_, 0, none⟩) (World.block_lt_of_cell? _ _ x10)).trans x10, (hb.frozen (p := ⟨_, 0, none⟩) (World.block_lt_of_cell? _ _ x10)).trans y10,
    (hb.cell (p := ⟨_, 0, none⟩) (World.block_lt_of_cell? _ _ x12)).trans x12, (hb.frozen (p := ⟨_, 0, none⟩) (World.block_lt_of_cell? _ _ x12)).trans y12, ho.below hb, hs.below hb, h1, h2, h3.trans (hb.mono h3.size)⟩
theorem cell_other {w : World} {g k : Nat} {u : Value} (h : k ≠ g) : (w.setCell ⟨g, 0, none⟩ u).cell? ⟨k, 0, none⟩ = w.cell? ⟨k, 0, none⟩ := World.cell?_of_block (w := w) (Below.heap_setCell _ _ _ _ h)
theorem PB.store1 {w wr : World} {g1 g2 : Nat} {aob : Option Addr} {cb : Nat} {by' : List Int} {m : Int} {o s o' : List Int} {pe : Option Addr} {qe : Nat} (h : PB w g1 g2 aob cb by' m o s wr) (h1 : w.heap.size + 1 + 1 < g1) (h2 : g1 < g2)
    (ho' : OwX wr w.heap.size (w.heap.size + 1 + 1) g1 g2 (.slice pe o'.length qe) o') (h17 : Ov17 m o') : PB w g1 g2 aob cb by' m o' s (wr.setCell ⟨g1, 0, none⟩ (.slice pe o'.length qe)) := by
  obtain ⟨aoo, co, aos, cs, x1, x2, y2, x10, y10, x12, y12, ho, hs, e1, e2, e3⟩ := h
  refine ⟨pe, qe, aos, cs, ?_, ?_, ?_, ?_, ?_, ?_, ?_, ho'.set2 0 _, hs.set2 0 _, h17, e2, Below.setCell e3 (by show w.heap.size ≤ g1; omega) _⟩
  · rw [cell_other (by omega)]; exact x1
  · rw [cell_other (by omega)]; exact x2
  · rw [World.frozen?_setCell]; exact y2
  · exact World.cell?_setCell_same _ _ _ x10
  · rw [World.frozen?_setCell]; exact y10
  · rw [cell_other (by omega)]; exact x12
  · rw [World.frozen?_setCell]; exact y12
theorem PB.store2 {w wr : World} {g1 g2 : Nat} {aob : Option Addr} {cb : Nat} {by' : List Int} {m : Int} {o s s' : List Int} {pe : Option Addr} {qe : Nat} (h : PB w g1 g2 aob cb by' m o s wr) (h1 : w.heap.size + 1 + 1 < g1) (h2 : g1 < g2)
    (hs' : OwX wr w.heap.size (w.heap.size + 1 + 1) g1 g2 (.slice pe s'.length qe) s') (h17 : Ov17 m s') : PB w g1 g2 aob cb by' m o s' (wr.setCell ⟨g2, 0, none⟩ (.slice pe s'.length qe)) := by
  obtain ⟨aoo, co, aos, cs, x1, x2, y2, x10, y10, x12, y12, ho, hs, e1, e2, e3⟩ := h
  refine ⟨aoo, co, pe, qe, ?_, ?_, ?_, ?_, ?_, ?_, ?_, ho.set3 0 _, hs'.set3 0 _, e1, h17, Below.setCell e3 (by show w.heap.size ≤ g2; omega) _⟩
  · rw [cell_other (by omega)]; exact x1
  · rw [cell_other (by omega)]; exact x2
  · rw [World.frozen?_setCell]; exact y2
  · rw [cell_other (by omega)]; exact x10
  · rw [World.frozen?_setCell]; exact y10
  · exact World.cell?_setCell_same _ _ _ x12
  · rw [World.frozen?_setCell]; exact y12
def PI (w : World) (g1 g2 : Nat) (aob : Option Addr) (cb : Nat) (by' : List Int) (m : Int) (R : List Int) (k : Nat) (pv : Value) (wr : World) : Prop :=
  ∃ (o s : List Int), pv = .int .i64 k ∧ (k : Int) ≤ 1000000 ∧ powZ m by' k o s = R ∧ PB w g1 g2 aob cb by' m o s wr

set_option maxRecDepth 100000 in
set_option maxHeartbeats 4000000 in
theorem PowerOver_impl (va vb : Value) (base by' : List Int) (p m : Int) (w : World) (ha : RdI w va base) (hb : RdI w vb by') (hla : base.length ≤ 1099511627776) (hlb : by'.length ≤ 1099511627776) : Calls Try.prog 39 #[.agg #[va], .int .i64 p, .agg #[vb], .int .i64 m] w (RWB (powR base p by' m) w) := by
  have Ha := Lib.hid ha
  have Hb := Lib.hid hb
  obtain ⟨aoa, ca, rfl⟩ := ha.shape
  obtain ⟨aob, cb, rfl⟩ := hb.shape
  clear ha hb
  have Hl2 := Lib.hid (show ∀ i, ([base, by'].getD i []).length ≤ 1099511627776 from fun i => by
    match i with
    | 0 => simpa using hla
    | 1 => simpa using hlb
    | i + 2 => simp)
  cases hq : (overB m base && overB m by')
  · have Ho := Lib.hid (show powR base p by' m = ([], false) by rw [powR, if_neg (by simp [powOk, hq]; try omega)])
    have Hq := Lib.hid (show areOverB m [base, by'] = false by rw [areOverB_two]; exact hq)
    go_enter Try.func39, Try.ntmps39
    go_wp2_with fail
    with_reducible refine (areOver_impl _ [base, by'] m _ ?lit (by simp) Hl2.out).mono ?_
    case lit => exact RdWs.lit2 (by simp) (Ha.out.below (by (repeat' (first | (with_reducible exact Below.refl _ _) | (with_reducible assumption) | (with_reducible refine Below.alloc ?_ ?_ _) | (with_reducible refine Below.setCell ?_ ?_ _) | (with_reducible refine Below.drew ?_) | (with_reducible refine Below.via (by assumption) ?_ ?_) | go_size)))) (Hb.out.below (by (repeat' (first | (with_reducible exact Below.refl _ _) | (with_reducible assumption) | (with_reducible refine Below.alloc ?_ ?_ _) | (with_reducible refine Below.setCell ?_ ?_ _) | (with_reducible refine Below.drew ?_) | (with_reducible refine Below.via (by assumption) ?_ ?_) | go_size))))
    rintro e w1 ⟨rfl, hb1⟩
    rw [Hq.out]
    obtain ⟨ch1, fh1⟩ := bcell hb1
    have z1 := hb1.size
    simp only [World.size_alloc] at z1
    have l0 : w.heap.size < w1.heap.size := by omega
    have l1 : w.heap.size + 1 < w1.heap.size := by omega
    have l2 : w.heap.size + 1 + 1 < w1.heap.size := by omega
    go_wp2_with fail
    (try simp only [Exit.inBlock, Exit.then]); refine bodyPost_ret (by simp [results, Try.results39, go_sem, *]; try rfl) rfl ?_
    rw [Ho.out]
    exact ⟨_, rfl, OwI.nil _ _, by (repeat' (first | (with_reducible exact Below.refl _ _) | (with_reducible assumption) | (with_reducible refine Below.alloc ?_ ?_ _) | (with_reducible refine Below.setCell ?_ ?_ _) | (with_reducible refine Below.drew ?_) | (with_reducible refine Below.via (by assumption) ?_ ?_) | go_size))⟩
  cases hin : inB 0 p 1000000
  · have Ho := Lib.hid (show powR base p by' m = ([], false) by rw [powR, if_neg (by simp [powOk, hq, hin]; try omega)])
    have Hq := Lib.hid (show areOverB m [base, by'] = true by rw [areOverB_two]; exact hq)
    go_enter Try.func39, Try.ntmps39
    go_wp2_with fail
    with_reducible refine (areOver_impl _ [base, by'] m _ ?lit (by simp) Hl2.out).mono ?_
    case lit => exact RdWs.lit2 (by simp) (Ha.out.below (by (repeat' (first | (with_reducible exact Below.refl _ _) | (with_reducible assumption) | (with_reducible refine Below.alloc ?_ ?_ _) | (with_reducible refine Below.setCell ?_ ?_ _) | (with_reducible refine Below.drew ?_) | (with_reducible refine Below.via (by assumption) ?_ ?_) | go_size)))) (Hb.out.below (by (repeat' (first | (with_reducible exact Below.refl _ _) | (with_reducible assumption) | (with_reducible refine Below.alloc ?_ ?_ _) | (with_reducible refine Below.setCell ?_ ?_ _) | (with_reducible refine Below.drew ?_) | (with_reducible refine Below.via (by assumption) ?_ ?_) | go_size))))
    rintro e w1 ⟨rfl, hb1⟩
    rw [Hq.out]
    obtain ⟨ch1, fh1⟩ := bcell hb1
    have z1 := hb1.size
    simp only [World.size_alloc] at z1
    have l0 : w.heap.size < w1.heap.size := by omega
    have l1 : w.heap.size + 1 < w1.heap.size := by omega
    have l2 : w.heap.size + 1 + 1 < w1.heap.size := by omega
    go_wp2_with fail
    (go_at_call 95; ((with_reducible refine (within_impl _ _ _ _).mono ?_); rintro e w' ⟨rfl, rfl⟩))
    go_wp2_with fail
    (try simp only [Exit.inBlock, Exit.then]); refine bodyPost_ret (by simp [results, Try.results39, go_sem, *]; try rfl) rfl ?_
    rw [Ho.out]
    exact ⟨_, rfl, OwI.nil _ _, by (repeat' (first | (with_reducible exact Below.refl _ _) | (with_reducible assumption) | (with_reducible refine Below.alloc ?_ ?_ _) | (with_reducible refine Below.setCell ?_ ?_ _) | (with_reducible refine Below.drew ?_) | (with_reducible refine Below.via (by assumption) ?_ ?_) | go_size))⟩
  by_cases hlen : (by'.length : Int) - 1 < 1
  · have Ho := Lib.hid (show powR base p by' m = ([], false) by rw [powR, if_neg (by simp [powOk, hq, hin]; try omega)])
    have Hq := Lib.hid (show areOverB m [base, by'] = true by rw [areOverB_two]; exact hq)
    go_enter Try.func39, Try.ntmps39
    go_wp2_with fail
    with_reducible refine (areOver_impl _ [base, by'] m _ ?lit (by simp) Hl2.out).mono ?_
    case lit => exact RdWs.lit2 (by simp) (Ha.out.below (by (repeat' (first | (with_reducible exact Below.refl _ _) | (with_reducible assumption) | (with_reducible refine Below.alloc ?_ ?_ _) | (with_reducible refine Below.setCell ?_ ?_ _) | (with_reducible refine Below.drew ?_) | (with_reducible refine Below.via (by assumption) ?_ ?_) | go_size)))) (Hb.out.below (by (repeat' (first | (with_reducible exact Below.refl _ _) | (with_reducible assumption) | (with_reducible refine Below.alloc ?_ ?_ _) | (with_reducible refine Below.setCell ?_ ?_ _) | (with_reducible refine Below.drew ?_) | (with_reducible refine Below.via (by assumption) ?_ ?_) | go_size))))
    rintro e w1 ⟨rfl, hb1⟩
    rw [Hq.out]
    obtain ⟨ch1, fh1⟩ := bcell hb1
    have z1 := hb1.size
    simp only [World.size_alloc] at z1
    have l0 : w.heap.size < w1.heap.size := by omega
    have l1 : w.heap.size + 1 < w1.heap.size := by omega
    have l2 : w.heap.size + 1 + 1 < w1.heap.size := by omega
    go_wp2_with fail
    (go_at_call 95; ((with_reducible refine (within_impl _ _ _ _).mono ?_); rintro e w' ⟨rfl, rfl⟩))
    go_wp2_with fail
    (go_at_call 79; ((with_reducible refine (degree_exact _ _ _ _ hlb).mono ?_); rintro e w' ⟨rfl, rfl⟩))
    go_wp2_with fail
    (try simp only [Exit.inBlock, Exit.then]); refine bodyPost_ret (by simp [results, Try.results39, go_sem, *]; try rfl) rfl ?_
    rw [Ho.out]
    exact ⟨_, rfl, OwI.nil _ _, by (repeat' (first | (with_reducible exact Below.refl _ _) | (with_reducible assumption) | (with_reducible refine Below.alloc ?_ ?_ _) | (with_reducible refine Below.setCell ?_ ?_ _) | (with_reducible refine Below.drew ?_) | (with_reducible refine Below.via (by assumption) ?_ ?_) | go_size))⟩
  have hok : powOk base p by' m = true := by simp [powOk, hq, hin]; omega
  have Ho := Lib.hid (show powR base p by' m = (powZ m by' p.toNat [1] (remF m by' base), true) by rw [powR, if_pos hok])
  have Hq := Lib.hid (show areOverB m [base, by'] = true by rw [areOverB_two]; exact hq)
  obtain ⟨hm, oa, ob, _, hp0, hp1⟩ := powOk_facts hok
  have hmp := primeB_bd hm
  have hl17 := ob.len
  have Hm := Lib.hid hm
  have Hoa := Lib.hid oa
  have Hob := Lib.hid ob
  have Hz := Lib.hid (long_zero (show 2 ≤ by'.length by omega))
  clear hok hm oa ob hq
  generalize hR : powZ m by' p.toNat [1] (remF m by' base) = R at *
  have HR := Lib.hid hR
  clear hR
  go_enter Try.func39, Try.ntmps39
  go_wp2_with fail
  with_reducible refine (areOver_impl _ [base, by'] m _ ?lit (by simp) Hl2.out).mono ?_
  case lit => exact RdWs.lit2 (by simp) (Ha.out.below (by (repeat' (first | (with_reducible exact Below.refl _ _) | (with_reducible assumption) | (with_reducible refine Below.alloc ?_ ?_ _) | (with_reducible refine Below.setCell ?_ ?_ _) | (with_reducible refine Below.drew ?_) | (with_reducible refine Below.via (by assumption) ?_ ?_) | go_size)))) (Hb.out.below (by (repeat' (first | (with_reducible exact Below.refl _ _) | (with_reducible assumption) | (with_reducible refine Below.alloc ?_ ?_ _) | (with_reducible refine Below.setCell ?_ ?_ _) | (with_reducible refine Below.drew ?_) | (with_reducible refine Below.via (by assumption) ?_ ?_) | go_size))))
  rintro e w1 ⟨rfl, hb1⟩
  rw [Hq.out]
  obtain ⟨ch1, fh1⟩ := bcell hb1
  have z1 := hb1.size
  simp only [World.size_alloc] at z1
  have l0 : w.heap.size < w1.heap.size := by omega
  have l1 : w.heap.size + 1 < w1.heap.size := by omega
  have l2 : w.heap.size + 1 + 1 < w1.heap.size := by omega
  go_wp2_with fail
  (go_at_call 95; ((with_reducible refine (within_impl _ _ _ _).mono ?_); rintro e w' ⟨rfl, rfl⟩))
  go_wp2_with fail
  (go_at_call 79; ((with_reducible refine (degree_exact _ _ _ _ hlb).mono ?_); rintro e w' ⟨rfl, rfl⟩))
  clear hin
  have la01 : w.heap.size < w1.heap.size + 1 := by omega
  have la02 : w.heap.size < w1.heap.size + 1 + 1 := by omega
  have la03 : w.heap.size < w1.heap.size + 1 + 1 + 1 := by omega
  have la11 : w.heap.size + 1 < w1.heap.size + 1 := by omega
  have la12 : w.heap.size + 1 < w1.heap.size + 1 + 1 := by omega
  have la13 : w.heap.size + 1 < w1.heap.size + 1 + 1 + 1 := by omega
  have la21 : w.heap.size + 1 + 1 < w1.heap.size + 1 := by omega
  have la22 : w.heap.size + 1 + 1 < w1.heap.size + 1 + 1 := by omega
  have la23 : w.heap.size + 1 + 1 < w1.heap.size + 1 + 1 + 1 := by omega
  go_wp2_with fail
  (go_at_call 88; ((with_reducible refine (divide_impl2 _ _ base by' m _ (Ha.out.below (by (repeat' (first | (with_reducible exact Below.refl _ _) | (with_reducible assumption) | (with_reducible refine Below.alloc ?_ ?_ _) | (with_reducible refine Below.setCell ?_ ?_ _) | (with_reducible refine Below.drew ?_) | (with_reducible refine Below.via (by assumption) ?_ ?_) | go_size)))) (Hb.out.below (by (repeat' (first | (with_reducible exact Below.refl _ _) | (with_reducible assumption) | (with_reducible refine Below.alloc ?_ ?_ _) | (with_reducible refine Below.setCell ?_ ?_ _) | (with_reducible refine Below.drew ?_) | (with_reducible refine Below.via (by assumption) ?_ ?_) | go_size)))) Hm.out Hoa.out.ovr Hob.out.ovr).mono ?_); rintro e w2 ⟨v1, v2, rfl, ho1, ho2, hb2⟩))
  obtain ⟨ch2, fh2⟩ := bcell hb2
  have z2 := hb2.size
  simp only [World.size_alloc] at z2
  have HL := Lib.hid (show OwI w2 (w1.heap.size + 1) (.slice (some ⟨w1.heap.size + 1, 0, none⟩) 1 1) [1] from ((OwI.litZ (by simp) (Nat.le_refl _)).alloc _).below hb2)
  have Ho2 := Lib.hid (show OwI w2 (w1.heap.size + 1 + 1 + 1) v2 (remF m by' base) from by simpa [remF] using ho2)
  have Bw2 := Lib.hid (show Below w.heap.size w w2 by (repeat' (first | (with_reducible exact Below.refl _ _) | (with_reducible assumption) | (with_reducible refine Below.alloc ?_ ?_ _) | (with_reducible refine Below.setCell ?_ ?_ _) | (with_reducible refine Below.drew ?_) | (with_reducible refine Below.via (by assumption) ?_ ?_) | go_size)))
  have lb0 : w.heap.size < w2.heap.size := by omega
  have lb1 : w.heap.size + 1 < w2.heap.size := by omega
  have lb2 : w.heap.size + 1 + 1 < w2.heap.size := by omega
  have lg1 : w1.heap.size + 1 + 1 < w2.heap.size := by omega
  have lg1' : w1.heap.size + 1 + 1 < w2.heap.size + 1 := by omega
  have X10 : w2.cell? ⟨w1.heap.size + 1 + 1, 0, none⟩ = some (.slice (some ⟨w1.heap.size + 1, 0, none⟩) 1 1) := (hb2.cell (p := ⟨w1.heap.size + 1 + 1, 0, none⟩) (by simp)).trans (by go_simp)
  have Y10 : w2.frozen? ⟨w1.heap.size + 1 + 1, 0, none⟩ = false := (hb2.frozen (p := ⟨w1.heap.size + 1 + 1, 0, none⟩) (by simp)).trans (by go_simp)
  obtain ⟨ao1, c1, rfl⟩ := ho1.rd.shape
  obtain ⟨ao2, c2, rfl⟩ := Ho2.out.rd.shape
  have hre : (divF base by' m).2 = remF m by' base := rfl
  clear ho1 ho2
  go_wp2_with fail
  have P0 : ∀ wl : World, wl = ((w2.alloc (.cells #[.slice ao1 (divF base by' m).1.length c1] 27)).alloc (.cells #[.slice ao2 (remF m by' base).length c2] 27)) → PI w (w1.heap.size + 1 + 1) (w2.heap.size + 1) aob cb by' m R p.toNat (.int .i64 p) wl := by
    rintro wl rfl
    refine ⟨[1], remF m by' base, by rw [show (p.toNat : Int) = p by omega], by omega, HR.out, some ⟨w1.heap.size + 1, 0, none⟩, 1, ao2, c2, by go_simp, by go_simp, by go_simp, by go_simp, by go_simp, by go_simp, by go_simp, ?_, ?_, one17 Hm.out, rem17 Hm.out Hoa.out.ovr Hob.out Hz.out, by have h := Bw2.out; (repeat' (first | (with_reducible exact Below.refl _ _) | (with_reducible assumption) | (with_reducible refine Below.alloc ?_ ?_ _) | (with_reducible refine Below.setCell ?_ ?_ _) | (with_reducible refine Below.drew ?_) | (with_reducible refine Below.via (by assumption) ?_ ?_) | go_size))⟩
    · refine ⟨(HL.out.below (by (repeat' (first | (with_reducible exact Below.refl _ _) | (with_reducible assumption) | (with_reducible refine Below.alloc ?_ ?_ _) | (with_reducible refine Below.setCell ?_ ?_ _) | (with_reducible refine Below.drew ?_) | (with_reducible refine Below.via (by assumption) ?_ ?_) | go_size)))).mono (by omega), fun q n c hv => ?_⟩
      simp only [Value.slice.injEq, Option.some.injEq] at hv
      rw [← hv.1]
      simp only
      omega
    · refine ⟨(Ho2.out.below (by (repeat' (first | (with_reducible exact Below.refl _ _) | (with_reducible assumption) | (with_reducible refine Below.alloc ?_ ?_ _) | (with_reducible refine Below.setCell ?_ ?_ _) | (with_reducible refine Below.drew ?_) | (with_reducible refine Below.via (by assumption) ?_ ?_) | go_size)))).mono (by omega), fun q n c hv => ?_⟩
      rcases Ho2.out with ⟨h, _⟩ | ⟨g, cap, cur, h, h4, h5, _⟩
      · rw [h] at hv; simp at hv
      · rw [h] at hv
        simp only [Value.slice.injEq, Option.some.injEq] at hv
        have h6 := (Array.getElem?_eq_some_iff.1 h5).1
        rw [← hv.1]
        simp only
        omega
  generalize hg1 : w1.heap.size + 1 + 1 = g1 at *
  generalize hg2 : w2.heap.size + 1 = g2 at *
  have hgx : w.heap.size + 1 + 1 < g1 := by omega
  have hgy : g1 < g2 := by omega
  have HP := Lib.hid P0
  clear P0 X10 Y10 lg1' hre ch2 fh2 ch1 fh1 hb1 hb2 hg1 hg2 lb0 lb1 lb2 lg1 z1 z2 l0 l1 l2 la01 la02 la03 la11 la12 la13 la21 la22 la23
  go_loopg [1] (p.toNat) (fun k pv wr => PI w g1 g2 aob cb by' m R k pv wr)
  case atStart => exact HP.out _ rfl
  case round =>
    obtain ⟨o, s, rfl, hk, hpw, hPB⟩ := hrel
    generalize gk = k at *
    have HPB := Lib.hid hPB
    have Hpw := Lib.hid hpw
    clear hpw hPB
    by_cases hk0 : k = 0
    · subst hk0
      have Heq := Lib.hid (show o = R by have h := Hpw.out; rw [powZ_zero] at h; exact h)
      obtain ⟨aoo, co, aos, cs, x1, x2, y2, x10, y10, x12, y12, hro, hrs, h17o, h17s, hbel⟩ := HPB.out
      have Ro := Lib.hid hro
      have Hbel := Lib.hid hbel
      have zb := hbel.size
      have n14 : ¬ (w.heap.size + 1 + 1 = g1) := by omega
      clear hro hrs h17o h17s hbel
      go_wp2
      (try simp only [Exit.inBlock, Exit.then]); refine bodyPost_ret (by simp [results, Try.results39, go_sem, *]; try rfl) rfl ?_
      rw [Ho.out, ← Heq.out]
      exact ⟨_, rfl, (Ro.out.set1 0 _).1, by have h := Hbel.out; (repeat' (first | (with_reducible exact Below.refl _ _) | (with_reducible assumption) | (with_reducible refine Below.alloc ?_ ?_ _) | (with_reducible refine Below.setCell ?_ ?_ _) | (with_reducible refine Below.drew ?_) | (with_reducible refine Below.via (by assumption) ?_ ?_) | go_size))⟩
    · have hk1 : (0 : Int) < (k : Int) := by omega
      have hkk : k / 2 < k := by omega
      by_cases hodd : k % 2 = 1
      · have hodd' : (k : Int) % 2 = 1 := by omega
        have Hnext := Lib.hid (show powZ m by' (k / 2) (remF m by' (mulF m o s)) (remF m by' (mulF m s s)) = R by rw [← powZ_odd hodd]; exact Hpw.out)
        clear hodd
        have Hx := HPB.out
        obtain ⟨aoo, co, aos, cs, x1, _, _, x10, y10, x12, y12, hro, hrs, h17o, h17s, hbl⟩ := Hx
        have Hl := Lib.hid (show o.length + s.length ≤ 101 by have := h17o.len; have := h17s.len; omega)
        have Oe := Lib.hid (rem17 Hm.out (mul17 Hm.out h17o h17s) Hob.out Hz.out)
        have Om := Lib.hid (mul17 Hm.out h17o h17s)
        have Oa := Lib.hid h17o.ovr
        have Os := Lib.hid h17s.ovr
        have Ra := Lib.hid (show RdI wr.drew _ o from (hro.drew).rd)
        have Rb := Lib.hid (show RdI wr.drew _ s from (hrs.drew).rd)
        have Hbl := Lib.hid hbl
        have s1 := World.block_lt_of_cell? _ _ x1
        have s10 := World.block_lt_of_cell? _ _ x10
        have s12 := World.block_lt_of_cell? _ _ x12
        have zbl := hbl.size
        simp only at s1 s10 s12
        clear hro hrs h17o h17s hbl
        go_upto_region 8 with fail
        go_cut [1] (fun s1 wx => s1 = .int .i64 k ∧ PB w g1 g2 aob cb by' m (remF m by' (mulF m o s)) s wx)
        case first =>
          go_region_with (first
            | (go_at_call 82; ((with_reducible refine (mulOver_impl _ _ o s m wr.drew Ra.out Rb.out Hm.out Oa.out Os.out Hl.out).mono ?_); rintro e wb ⟨vb, rfl, rb, bb⟩; obtain ⟨pb, qb, rfl⟩ := rb.rd.shape; (have Bqb := (show Below wr.heap.size wr wb by (repeat' (first | (with_reducible exact Below.refl _ _) | (with_reducible assumption) | (with_reducible refine Below.alloc ?_ ?_ _) | (with_reducible refine Below.setCell ?_ ?_ _) | (with_reducible refine Below.drew ?_) | (with_reducible refine Below.via (by assumption) ?_ ?_) | go_size)))); (have zqb := Bqb.size); (have e1b := (Bqb.cell (p := ⟨w.heap.size + 1, 0, none⟩) s1).trans x1)))
            | (go_at_call 88; ((with_reducible refine (divide_impl2 _ _ (mulF m o s) by' m wb rb.rd (Hb.out.below (Hbl.out.trans (Bqb.mono Hbl.out.size))) Hm.out Om.out Hob.out.ovr).mono ?_); rintro e wd ⟨vd, ve, rfl, rd, re, dd⟩; obtain ⟨pd, qd, rfl⟩ := rd.rd.shape; obtain ⟨pe, qe, rfl⟩ := re.rd.shape; (have Bqd := (show Below wr.heap.size wr wd by (repeat' (first | (with_reducible exact Below.refl _ _) | (with_reducible assumption) | (with_reducible refine Below.alloc ?_ ?_ _) | (with_reducible refine Below.setCell ?_ ?_ _) | (with_reducible refine Below.drew ?_) | (with_reducible refine Below.via (by assumption) ?_ ?_) | go_size)))); (have zqd := Bqd.size); (have e1d := (Bqd.cell (p := ⟨w.heap.size + 1, 0, none⟩) s1).trans x1); (have e3d := (Bqd.cell (p := ⟨g1, 0, none⟩) s10).trans x10); (have f3d := (Bqd.frozen (p := ⟨g1, 0, none⟩) s10).trans y10))))
          all_goals
            go_wp2_with fail
            go_meet
            exact
              ⟨rfl, PB.store1 (HPB.out.below Bqd) hgx hgy (OwX.ofNew re (by omega) (by omega) (by omega) (by omega)) Oe.out⟩
        case rest =>
          obtain ⟨rfl, hPB⟩ := hcut
          have HPB2 := Lib.hid hPB
          clear hPB HPB x1 x10 y10 x12 y12 s1 s10 s12 zbl Ra Rb Oe Om Oa Os Hl Hbl
          generalize wc = wr at *
          have HPB := HPB2
          have Hx := HPB.out
          obtain ⟨aoo, co, aos, cs, x1, _, _, x10, y10, x12, y12, hro, hrs, h17o, h17s, hbl⟩ := Hx
          have Hl := Lib.hid (show s.length + s.length ≤ 101 by have := h17s.len; have := h17s.len; omega)
          have Oe := Lib.hid (rem17 Hm.out (mul17 Hm.out h17s h17s) Hob.out Hz.out)
          have Om := Lib.hid (mul17 Hm.out h17s h17s)
          have Oa := Lib.hid h17s.ovr
          have Os := Lib.hid h17s.ovr
          have Ra := Lib.hid (show RdI wr.drew _ s from (hrs.drew).rd)
          have Rb := Lib.hid (show RdI wr.drew _ s from (hrs.drew).rd)
          have Hbl := Lib.hid hbl
          have s1 := World.block_lt_of_cell? _ _ x1
          have s10 := World.block_lt_of_cell? _ _ x10
          have s12 := World.block_lt_of_cell? _ _ x12
          have zbl := hbl.size
          simp only at s1 s10 s12
          clear hro hrs h17o h17s hbl
          go_wp2_with fail
          skip
          ·
            go_region_with (first
              | (go_at_call 82; ((with_reducible refine (mulOver_impl _ _ s s m wr.drew Ra.out Rb.out Hm.out Oa.out Os.out Hl.out).mono ?_); rintro e wb ⟨vb, rfl, rb, bb⟩; obtain ⟨pb, qb, rfl⟩ := rb.rd.shape; (have Bqb := (show Below wr.heap.size wr wb by (repeat' (first | (with_reducible exact Below.refl _ _) | (with_reducible assumption) | (with_reducible refine Below.alloc ?_ ?_ _) | (with_reducible refine Below.setCell ?_ ?_ _) | (with_reducible refine Below.drew ?_) | (with_reducible refine Below.via (by assumption) ?_ ?_) | go_size)))); (have zqb := Bqb.size); (have e1b := (Bqb.cell (p := ⟨w.heap.size + 1, 0, none⟩) s1).trans x1)))
              | (go_at_call 88; ((with_reducible refine (divide_impl2 _ _ (mulF m s s) by' m wb rb.rd (Hb.out.below (Hbl.out.trans (Bqb.mono Hbl.out.size))) Hm.out Om.out Hob.out.ovr).mono ?_); rintro e wd ⟨vd, ve, rfl, rd, re, dd⟩; obtain ⟨pd, qd, rfl⟩ := rd.rd.shape; obtain ⟨pe, qe, rfl⟩ := re.rd.shape; (have Bqd := (show Below wr.heap.size wr wd by (repeat' (first | (with_reducible exact Below.refl _ _) | (with_reducible assumption) | (with_reducible refine Below.alloc ?_ ?_ _) | (with_reducible refine Below.setCell ?_ ?_ _) | (with_reducible refine Below.drew ?_) | (with_reducible refine Below.via (by assumption) ?_ ?_) | go_size)))); (have zqd := Bqd.size); (have e1d := (Bqd.cell (p := ⟨w.heap.size + 1, 0, none⟩) s1).trans x1); (have e3d := (Bqd.cell (p := ⟨g2, 0, none⟩) s12).trans x12); (have f3d := (Bqd.frozen (p := ⟨g2, 0, none⟩) s12).trans y12))))
            all_goals
              go_wp2_with fail
              go_roundg (k / 2)
              case measure => omega
              case rel => exact ⟨_, _, by go_num, by omega, Hnext.out, PB.store2 (HPB.out.below Bqd) hgx hgy (OwX.ofNew re (by omega) (by omega) (by omega) (by omega)) Oe.out⟩
          

      · have hodd' : ¬ ((k : Int) % 2 = 1) := by omega
        have Hnext := Lib.hid (show powZ m by' (k / 2) o (remF m by' (mulF m s s)) = R by rw [← powZ_even hk0 hodd]; exact Hpw.out)
        clear hodd hk0
        have Hx := HPB.out
        obtain ⟨aoo, co, aos, cs, x1, _, _, x10, y10, x12, y12, hro, hrs, h17o, h17s, hbl⟩ := Hx
        have Hl := Lib.hid (show s.length + s.length ≤ 101 by have := h17s.len; have := h17s.len; omega)
        have Oe := Lib.hid (rem17 Hm.out (mul17 Hm.out h17s h17s) Hob.out Hz.out)
        have Om := Lib.hid (mul17 Hm.out h17s h17s)
        have Oa := Lib.hid h17s.ovr
        have Os := Lib.hid h17s.ovr
        have Ra := Lib.hid (show RdI wr.drew _ s from (hrs.drew).rd)
        have Rb := Lib.hid (show RdI wr.drew _ s from (hrs.drew).rd)
        have Hbl := Lib.hid hbl
        have s1 := World.block_lt_of_cell? _ _ x1
        have s10 := World.block_lt_of_cell? _ _ x10
        have s12 := World.block_lt_of_cell? _ _ x12
        have zbl := hbl.size
        simp only at s1 s10 s12
        clear hro hrs h17o h17s hbl
        go_wp2_with fail
        skip
        ·
          go_region_with (first
            | (go_at_call 82; ((with_reducible refine (mulOver_impl _ _ s s m wr.drew Ra.out Rb.out Hm.out Oa.out Os.out Hl.out).mono ?_); rintro e wb ⟨vb, rfl, rb, bb⟩; obtain ⟨pb, qb, rfl⟩ := rb.rd.shape; (have Bqb := (show Below wr.heap.size wr wb by (repeat' (first | (with_reducible exact Below.refl _ _) | (with_reducible assumption) | (with_reducible refine Below.alloc ?_ ?_ _) | (with_reducible refine Below.setCell ?_ ?_ _) | (with_reducible refine Below.drew ?_) | (with_reducible refine Below.via (by assumption) ?_ ?_) | go_size)))); (have zqb := Bqb.size); (have e1b := (Bqb.cell (p := ⟨w.heap.size + 1, 0, none⟩) s1).trans x1)))
            | (go_at_call 88; ((with_reducible refine (divide_impl2 _ _ (mulF m s s) by' m wb rb.rd (Hb.out.below (Hbl.out.trans (Bqb.mono Hbl.out.size))) Hm.out Om.out Hob.out.ovr).mono ?_); rintro e wd ⟨vd, ve, rfl, rd, re, dd⟩; obtain ⟨pd, qd, rfl⟩ := rd.rd.shape; obtain ⟨pe, qe, rfl⟩ := re.rd.shape; (have Bqd := (show Below wr.heap.size wr wd by (repeat' (first | (with_reducible exact Below.refl _ _) | (with_reducible assumption) | (with_reducible refine Below.alloc ?_ ?_ _) | (with_reducible refine Below.setCell ?_ ?_ _) | (with_reducible refine Below.drew ?_) | (with_reducible refine Below.via (by assumption) ?_ ?_) | go_size)))); (have zqd := Bqd.size); (have e1d := (Bqd.cell (p := ⟨w.heap.size + 1, 0, none⟩) s1).trans x1); (have e3d := (Bqd.cell (p := ⟨g2, 0, none⟩) s12).trans x12); (have f3d := (Bqd.frozen (p := ⟨g2, 0, none⟩) s12).trans y12))))
          all_goals
            go_wp2_with fail
            go_roundg (k / 2)
            case measure => omega
            case rel => exact ⟨_, _, by go_num, by omega, Hnext.out, PB.store2 (HPB.out.below Bqd) hgx hgy (OwX.ofNew re (by omega) (by omega) (by omega) (by omega)) Oe.out⟩
        


end Go.Proofs.Ytlnjkjogedbhfaa
